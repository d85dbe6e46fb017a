/- A list written full, grown and read again; three times with other marks. -/
import Derived.Test.YtelaolingpbnfaaDoorRA
namespace Go.Proofs.YtelaolingpbnfaaDoor
open Go.RowKit
set_option linter.unusedSimpArgs false
set_option maxRecDepth 100000
def cL : Code → Code
  | .seq a _ => a
  | c => c
def cR : Code → Code
  | .seq _ b => b
  | .block _ c => c
  | .loop c => c
  | c => c
noncomputable def kB : Code := Tryd.f48.body.getD .skip
/-- A list as it is when all its contents are marked. -/
def mkd (ts : List Tlv) (p : Int) : List Tlv := (List.range ts.length).map fun i => ⟨(ts.getD i default).tag, List.replicate (ts.getD i default).data.length (u8 (markI i p)), (ts.getD i default).kids⟩
theorem mkd_len (ts : List Tlv) (p : Int) : (mkd ts p).length = ts.length := by simp [mkd]
theorem mkd_get (ts : List Tlv) (p : Int) {i : Nat} (h : i < ts.length) : (mkd ts p).getD i default = ⟨(ts.getD i default).tag, List.replicate (ts.getD i default).data.length (u8 (markI i p)), (ts.getD i default).kids⟩ := by
  rw [mkd, List.getD_eq_getElem?_getD, List.getElem?_map, List.getElem?_range h]; rfl
theorem mkd_eq {ts us : List Tlv} {p : Int} (hl : us.length = ts.length) (h : ∀ j, j < ts.length → us.getD j default = ⟨(ts.getD j default).tag, List.replicate (ts.getD j default).data.length (u8 (markI j p)), (ts.getD j default).kids⟩) : us = mkd ts p := by
  refine List.ext_getElem (by rw [hl, mkd_len]) fun i h1 h2 => ?_
  have h3 := h i (by omega)
  rw [← mkd_get ts p (by omega), List.getD_eq_getElem?_getD, List.getElem?_eq_getElem h1, List.getD_eq_getElem?_getD, List.getElem?_eq_getElem h2] at h3
  exact h3
theorem rep_ext {l : List UInt8} {c : UInt8} {n : Nat} (hl : l.length = n) (h : ∀ j, j < n → l[j]? = some c) : l = List.replicate n c := by
  refine List.ext_getElem? fun i => ?_
  rcases Nat.lt_or_ge i n with hi | hi
  · rw [h i hi, List.getElem?_replicate, if_pos hi]
  · rw [List.getElem?_eq_none (by omega), List.getElem?_replicate, if_neg (by omega)]
/-- So much of a list is marked. -/
structure Mrk (ts : List Tlv) (p : Int) (i q : Nat) (us : List Tlv) : Prop where
  len : us.length = ts.length
  tk : ∀ j, j < ts.length → (us.getD j default).tag = (ts.getD j default).tag ∧ (us.getD j default).kids = (ts.getD j default).kids ∧ (us.getD j default).data.length = (ts.getD j default).data.length
  done : ∀ j, j < i → j < ts.length → ∀ r, r < (ts.getD j default).data.length → (us.getD j default).data[r]? = some (u8 (markI j p))
  now : i < ts.length → ∀ r, r < q → r < (ts.getD i default).data.length → (us.getD i default).data[r]? = some (u8 (markI i p))
theorem Mrk.next {ts us : List Tlv} {p : Int} {i q : Nat} (h : Mrk ts p i q us) (hi : i < ts.length) (hq : (ts.getD i default).data.length ≤ q) : Mrk ts p (i + 1) 0 us :=
  ⟨h.len, h.tk, fun j hj hj' r hr => by
    rcases Nat.lt_or_ge j i with h1 | h1
    · exact h.done j h1 hj' r hr
    · obtain rfl : j = i := by omega
      exact h.now hi r (by omega) hr, fun _ r hr => by omega⟩
theorem Mrk.set {ts us : List Tlv} {p : Int} {i q : Nat} (h : Mrk ts p i q us) (hi : i < ts.length) (hq : q < (ts.getD i default).data.length) :
    Mrk ts p i (q + 1) (us.set i ⟨(us.getD i default).tag, (us.getD i default).data.set q (u8 (markI i p)), (us.getD i default).kids⟩) := by
  have hl := h.len
  have g : ∀ j (t : Tlv), (us.set i t).getD j default = if j = i then t else us.getD j default := fun j t => by
    rw [List.getD_eq_getElem?_getD, List.getElem?_set]
    by_cases hj : i = j
    · subst hj; simp [hl, hi]
    · rw [if_neg hj, if_neg (fun e => hj e.symm), List.getD_eq_getElem?_getD]
  refine ⟨by rw [List.length_set]; exact hl, fun j hj => ?_, fun j hj hj' r hr => ?_, fun _ r hr hr' => ?_⟩
  · rw [g]
    split
    · rename_i e; subst e
      obtain ⟨a, b, c⟩ := h.tk j hj
      exact ⟨a, b, by rw [← c]; simp⟩
    · exact h.tk j hj
  · rw [g, if_neg (by omega)]; exact h.done j hj hj' r hr
  · rw [g, if_pos rfl]
    show ((us.getD i default).data.set q (u8 (markI i p)))[r]? = _
    rw [List.getElem?_set]
    split
    · rename_i e; subst e
      rw [if_pos (by have := (h.tk i hi).2.2; omega)]
    · exact h.now hi r (by omega) hr'
theorem Mrk.all {ts us : List Tlv} {p : Int} (h : Mrk ts p ts.length 0 us) : us = mkd ts p :=
  mkd_eq h.len fun j hj => by
    obtain ⟨a, b, c⟩ := h.tk j hj
    have hd := rep_ext c (fun r hr => h.done j hj hj r hr)
    generalize us.getD j default = u at a b hd
    cases u
    simp only at a b hd
    rw [a, b, hd]
theorem u8_eq {c : UInt8} {n : Int} (h : (c.toNat : Int) = n) : c = u8 n := by
  subst h
  unfold u8
  simp
/-- The first part: the contents are marked. -/
theorem keeps_l1 (J : Inv) (ts : List Tlv) (k nx : Nat) (p : Int) (hs : ts.length ≤ 16777216) (hd : ∀ i, i < ts.length → (ts.getD i default).data.length ≤ 16777216) :
    vg Tryd.prog (GK J nx) (.seq (cL kB) (.seq (cL (cR kB)) (cL (cR (cR kB))))) ⟨[(0, .ro (.r k)), (1, .val (.int .i64 p))], [(k, .row 36 (tloV ts))], nx⟩
      ⟨fun s => Sub s ⟨[(0, .ro (.r k)), (1, .val (.int .i64 p)), (7, .val (.slice none 0 0))], [(k, .row 36 (tloV (mkd ts p)))], nx⟩, fun _ => False, []⟩ := by
  have hs1 := hs
  simp only [kB, cL, cR, Tryd.f48, Option.getD_some]
  simp only [vquietR, vopsR, RetC, retW, cellR, undV, vgA, vbinN, vnn, isNilC, isIf, vconvH, vconvO, cvOk, frz1, frzE, jsOk, jsCo, rowsH, vgcH, vgH, vopsT, stepE, Kseq_app, vg_skip, vg_label, vg_seq, vg_region, vg_cond, vg_block, vg_exit, vg_ret, vg_loop, vcallF, vcallH, uls, HdelK, memN, noBox, ninL, keysH, jsAt, AdSub, adopt, noEl, isNil, effL, effO, vopsD, vquiet, vfstD, ldq, ldOk, vops, vfst, vone, vact, ug, addL, vbox, valloc, vstore, vbuild, vbuildSlice, vappend, vmake, zeroS, zeroE, vstrB, apC, nrm, nr1, nrL, keyL, neqs, diffs, V.app, V.len, vsrc, vdst, mkSl, mkBy, inOrd, placeAll, V.one, V.sto, V.csize, V.parts, V.cellsL, setMany, V.setB, V.setE, V.setO, V.noOwn, V.isOwn, vq, vcall, fzA, fz, fz1, fzL, fzN, rts, rt1, V.er, er1, er2, mixA, mixK, uargs, u1, R.add, vop, vbin, vint2, vstr2, vbool2, vnum, vun, vpick, vpick1, vbool, vconv, vnil, vfieldAddr, vindexAddr, vindex, vload, vfield, aggD, vslice, bnd, uopt, vlen, vmin, vextract, Hpk, Hroot, refV, ownR, V.i, V.elems, V.cell, V.cut, V.exact, V.ex0, exL, V.cl, clL, V.sc, scL, scO, scH, V.ct, ct1, ct2, RetP, RetK, RetH, retL, retOne, Back, Veq, subH, obs, obsIf, En.get, En.put, En.ev, enOf, gcond, wantB, constV, exGet, subE, Sub, RV, RVL, NR, RO, subER, subHR, newLt, oldNe, oldOk, oldGe, notIn, ivN, lookN, SubR, Nm.root, Nat.reduceMul, Nat.reduceLeDiff, Nat.reduceEqDiff, Nat.reduceLT, Nat.reduceAdd, Nat.reduceSub, ↓reduceIte, implies_true, reduceCtorEq, ne_eq, ↓shr_eq, IntKind.bits, Int.reduceToNat, Int.reducePow, dite_eq_ite, Value.oneCell', Nat.reduceBEq, Nat.reduceDiv, sd, nm, ty, tlsV, tlvD, tloV, tlvOD, tb, GK, GKf]
  generalize hK : Kseq _ _ _ _ = K2
  refine LoopC.intro (α := Nat × List Tlv) (fun y => y.1 ≤ ts.length ∧ Mrk ts p y.1 0 y.2)
    (fun y => ⟨[(5, .i y.1), (0, .ro (.r k)), (1, .val (.int .i64 p))], [(k, .row 36 (tloV y.2))], nx⟩) (fun y => ts.length - y.1) (0, ts) ⟨Nat.zero_le _, ⟨rfl, fun j _ => ⟨rfl, rfl, rfl⟩, fun j hj => by omega, fun _ r hr => by omega⟩⟩ ?_ ?_
  · simp only [vquietR, vopsR, RetC, retW, cellR, undV, vgA, vbinN, vnn, isNilC, isIf, vconvH, vconvO, cvOk, frz1, frzE, jsOk, jsCo, rowsH, vgcH, vgH, vopsT, stepE, Kseq_app, vg_skip, vg_label, vg_seq, vg_region, vg_cond, vg_block, vg_exit, vg_ret, vg_loop, vcallF, vcallH, uls, HdelK, memN, noBox, ninL, keysH, jsAt, AdSub, adopt, noEl, isNil, effL, effO, vopsD, vquiet, vfstD, ldq, ldOk, vops, vfst, vone, vact, ug, addL, vbox, valloc, vstore, vbuild, vbuildSlice, vappend, vmake, zeroS, zeroE, vstrB, apC, nrm, nr1, nrL, keyL, neqs, diffs, V.app, V.len, vsrc, vdst, mkSl, mkBy, inOrd, placeAll, V.one, V.sto, V.csize, V.parts, V.cellsL, setMany, V.setB, V.setE, V.setO, V.noOwn, V.isOwn, vq, vcall, fzA, fz, fz1, fzL, fzN, rts, rt1, V.er, er1, er2, mixA, mixK, uargs, u1, R.add, vop, vbin, vint2, vstr2, vbool2, vnum, vun, vpick, vpick1, vbool, vconv, vnil, vfieldAddr, vindexAddr, vindex, vload, vfield, aggD, vslice, bnd, uopt, vlen, vmin, vextract, Hpk, Hroot, refV, ownR, V.i, V.elems, V.cell, V.cut, V.exact, V.ex0, exL, V.cl, clL, V.sc, scL, scO, scH, V.ct, ct1, ct2, RetP, RetK, RetH, retL, retOne, Back, Veq, subH, obs, obsIf, En.get, En.put, En.ev, enOf, gcond, wantB, constV, exGet, subE, Sub, RV, RVL, NR, RO, subER, subHR, newLt, oldNe, oldOk, oldGe, notIn, ivN, lookN, SubR, Nm.root, Nat.reduceMul, Nat.reduceLeDiff, Nat.reduceEqDiff, Nat.reduceLT, Nat.reduceAdd, Nat.reduceSub, ↓reduceIte, implies_true, reduceCtorEq, ne_eq, ↓shr_eq, IntKind.bits, Int.reduceToNat, Int.reducePow, dite_eq_ite, Value.oneCell', Nat.reduceBEq, Nat.reduceDiv, sd, nm, ty, tlsV, tlvD, tloV, tlvOD, tb]
    exact ⟨rfl, Nat.le_refl _⟩
  · rintro ⟨i, us⟩ ⟨q1, q2⟩
    simp only at q1 q2
    have hul := q2.len
    simp only [vquietR, vopsR, RetC, retW, cellR, undV, vgA, vbinN, vnn, isNilC, isIf, vconvH, vconvO, cvOk, frz1, frzE, jsOk, jsCo, rowsH, vgcH, vgH, vopsT, stepE, Kseq_app, vg_skip, vg_label, vg_seq, vg_region, vg_cond, vg_block, vg_exit, vg_ret, vg_loop, vcallF, vcallH, uls, HdelK, memN, noBox, ninL, keysH, jsAt, AdSub, adopt, noEl, isNil, effL, effO, vopsD, vquiet, vfstD, ldq, ldOk, vops, vfst, vone, vact, ug, addL, vbox, valloc, vstore, vbuild, vbuildSlice, vappend, vmake, zeroS, zeroE, vstrB, apC, nrm, nr1, nrL, keyL, neqs, diffs, V.app, V.len, vsrc, vdst, mkSl, mkBy, inOrd, placeAll, V.one, V.sto, V.csize, V.parts, V.cellsL, setMany, V.setB, V.setE, V.setO, V.noOwn, V.isOwn, vq, vcall, fzA, fz, fz1, fzL, fzN, rts, rt1, V.er, er1, er2, mixA, mixK, uargs, u1, R.add, vop, vbin, vint2, vstr2, vbool2, vnum, vun, vpick, vpick1, vbool, vconv, vnil, vfieldAddr, vindexAddr, vindex, vload, vfield, aggD, vslice, bnd, uopt, vlen, vmin, vextract, Hpk, Hroot, refV, ownR, V.i, V.elems, V.cell, V.cut, V.exact, V.ex0, exL, V.cl, clL, V.sc, scL, scO, scH, V.ct, ct1, ct2, RetP, RetK, RetH, retL, retOne, Back, Veq, subH, obs, obsIf, En.get, En.put, En.ev, enOf, gcond, wantB, constV, exGet, subE, Sub, RV, RVL, NR, RO, subER, subHR, newLt, oldNe, oldOk, oldGe, notIn, ivN, lookN, SubR, Nm.root, Nat.reduceMul, Nat.reduceLeDiff, Nat.reduceEqDiff, Nat.reduceLT, Nat.reduceAdd, Nat.reduceSub, ↓reduceIte, implies_true, reduceCtorEq, ne_eq, ↓shr_eq, IntKind.bits, Int.reduceToNat, Int.reducePow, dite_eq_ite, Value.oneCell', Nat.reduceBEq, Nat.reduceDiv, sd, nm, ty, tlsV, tlvD, tloV, tlvOD, tb, GK, GKf]
    refine ⟨fun hi => ?_, fun hi => ?_⟩
    · have hi : i < ts.length := by simp at hi; omega
      generalize hK3 : Kseq _ _ _ _ = K3
      refine LoopC.intro (α := Nat × List Tlv) (fun y => y.1 ≤ (ts.getD i default).data.length ∧ Mrk ts p i y.1 y.2)
        (fun y => ⟨[(6, .i y.1), (5, .i i), (0, .ro (.r k)), (1, .val (.int .i64 p))], [(k, .row 36 (tloV y.2))], nx⟩) (fun y => (ts.getD i default).data.length - y.1) (0, us) ⟨Nat.zero_le _, ⟨q2.len, q2.tk, q2.done, fun _ r hr => by omega⟩⟩ ?_ ?_
      · simp only [vquietR, vopsR, RetC, retW, cellR, undV, vgA, vbinN, vnn, isNilC, isIf, vconvH, vconvO, cvOk, frz1, frzE, jsOk, jsCo, rowsH, vgcH, vgH, vopsT, stepE, Kseq_app, vg_skip, vg_label, vg_seq, vg_region, vg_cond, vg_block, vg_exit, vg_ret, vg_loop, vcallF, vcallH, uls, HdelK, memN, noBox, ninL, keysH, jsAt, AdSub, adopt, noEl, isNil, effL, effO, vopsD, vquiet, vfstD, ldq, ldOk, vops, vfst, vone, vact, ug, addL, vbox, valloc, vstore, vbuild, vbuildSlice, vappend, vmake, zeroS, zeroE, vstrB, apC, nrm, nr1, nrL, keyL, neqs, diffs, V.app, V.len, vsrc, vdst, mkSl, mkBy, inOrd, placeAll, V.one, V.sto, V.csize, V.parts, V.cellsL, setMany, V.setB, V.setE, V.setO, V.noOwn, V.isOwn, vq, vcall, fzA, fz, fz1, fzL, fzN, rts, rt1, V.er, er1, er2, mixA, mixK, uargs, u1, R.add, vop, vbin, vint2, vstr2, vbool2, vnum, vun, vpick, vpick1, vbool, vconv, vnil, vfieldAddr, vindexAddr, vindex, vload, vfield, aggD, vslice, bnd, uopt, vlen, vmin, vextract, Hpk, Hroot, refV, ownR, V.i, V.elems, V.cell, V.cut, V.exact, V.ex0, exL, V.cl, clL, V.sc, scL, scO, scH, V.ct, ct1, ct2, RetP, RetK, RetH, retL, retOne, Back, Veq, subH, obs, obsIf, En.get, En.put, En.ev, enOf, gcond, wantB, constV, exGet, subE, Sub, RV, RVL, NR, RO, subER, subHR, newLt, oldNe, oldOk, oldGe, notIn, ivN, lookN, SubR, Nm.root, Nat.reduceMul, Nat.reduceLeDiff, Nat.reduceEqDiff, Nat.reduceLT, Nat.reduceAdd, Nat.reduceSub, ↓reduceIte, implies_true, reduceCtorEq, ne_eq, ↓shr_eq, IntKind.bits, Int.reduceToNat, Int.reducePow, dite_eq_ite, Value.oneCell', Nat.reduceBEq, Nat.reduceDiv, sd, nm, ty, tlsV, tlvD, tloV, tlvOD, tb]
        exact ⟨rfl, Nat.le_refl _⟩
      · rintro ⟨q, vs⟩ ⟨q3, q4⟩
        simp only at q3 q4
        have hvl := q4.len
        have hdl := hd i hi
        have hvl2 := (q4.tk i hi).2.2
        simp only [vquietR, vopsR, RetC, retW, cellR, undV, vgA, vbinN, vnn, isNilC, isIf, vconvH, vconvO, cvOk, frz1, frzE, jsOk, jsCo, rowsH, vgcH, vgH, vopsT, stepE, Kseq_app, vg_skip, vg_label, vg_seq, vg_region, vg_cond, vg_block, vg_exit, vg_ret, vg_loop, vcallF, vcallH, uls, HdelK, memN, noBox, ninL, keysH, jsAt, AdSub, adopt, noEl, isNil, effL, effO, vopsD, vquiet, vfstD, ldq, ldOk, vops, vfst, vone, vact, ug, addL, vbox, valloc, vstore, vbuild, vbuildSlice, vappend, vmake, zeroS, zeroE, vstrB, apC, nrm, nr1, nrL, keyL, neqs, diffs, V.app, V.len, vsrc, vdst, mkSl, mkBy, inOrd, placeAll, V.one, V.sto, V.csize, V.parts, V.cellsL, setMany, V.setB, V.setE, V.setO, V.noOwn, V.isOwn, vq, vcall, fzA, fz, fz1, fzL, fzN, rts, rt1, V.er, er1, er2, mixA, mixK, uargs, u1, R.add, vop, vbin, vint2, vstr2, vbool2, vnum, vun, vpick, vpick1, vbool, vconv, vnil, vfieldAddr, vindexAddr, vindex, vload, vfield, aggD, vslice, bnd, uopt, vlen, vmin, vextract, Hpk, Hroot, refV, ownR, V.i, V.elems, V.cell, V.cut, V.exact, V.ex0, exL, V.cl, clL, V.sc, scL, scO, scH, V.ct, ct1, ct2, RetP, RetK, RetH, retL, retOne, Back, Veq, subH, obs, obsIf, En.get, En.put, En.ev, enOf, gcond, wantB, constV, exGet, subE, Sub, RV, RVL, NR, RO, subER, subHR, newLt, oldNe, oldOk, oldGe, notIn, ivN, lookN, SubR, Nm.root, Nat.reduceMul, Nat.reduceLeDiff, Nat.reduceEqDiff, Nat.reduceLT, Nat.reduceAdd, Nat.reduceSub, ↓reduceIte, implies_true, reduceCtorEq, ne_eq, ↓shr_eq, IntKind.bits, Int.reduceToNat, Int.reducePow, dite_eq_ite, Value.oneCell', Nat.reduceBEq, Nat.reduceDiv, sd, nm, ty, tlsV, tlvD, tloV, tlvOD, tb, GK, GKf]
        refine ⟨by omega, by omega, by omega, by omega, fun hq => ?_, fun hq => ?_⟩
        · simp only [decide_eq_true_eq] at hq
          have hq : q < (ts.getD i default).data.length := by omega
          refine DrawC.rows [(0, some (true, [])), (1, some (true, [])), (2, some (true, [])), (3, some (true, [])), (4, some (true, [])),
  (5, some (true, [])), (6, some (true, [])), (7, some (true, [])), (8, none), (9, some (true, [])), (10, none)] [] [10] (by kernel_rfl) ?_
          simp only [vquietR, vopsR, RetC, retW, cellR, undV, vgA, vbinN, vnn, isNilC, isIf, vconvH, vconvO, cvOk, frz1, frzE, jsOk, jsCo, rowsH, vgcH, vgH, vopsT, stepE, Kseq_app, vg_skip, vg_label, vg_seq, vg_region, vg_cond, vg_block, vg_exit, vg_ret, vg_loop, vcallF, vcallH, uls, HdelK, memN, noBox, ninL, keysH, jsAt, AdSub, adopt, noEl, isNil, effL, effO, vopsD, vquiet, vfstD, ldq, ldOk, vops, vfst, vone, vact, ug, addL, vbox, valloc, vstore, vbuild, vbuildSlice, vappend, vmake, zeroS, zeroE, vstrB, apC, nrm, nr1, nrL, keyL, neqs, diffs, V.app, V.len, vsrc, vdst, mkSl, mkBy, inOrd, placeAll, V.one, V.sto, V.csize, V.parts, V.cellsL, setMany, V.setB, V.setE, V.setO, V.noOwn, V.isOwn, vq, vcall, fzA, fz, fz1, fzL, fzN, rts, rt1, V.er, er1, er2, mixA, mixK, uargs, u1, R.add, vop, vbin, vint2, vstr2, vbool2, vnum, vun, vpick, vpick1, vbool, vconv, vnil, vfieldAddr, vindexAddr, vindex, vload, vfield, aggD, vslice, bnd, uopt, vlen, vmin, vextract, Hpk, Hroot, refV, ownR, V.i, V.elems, V.cell, V.cut, V.exact, V.ex0, exL, V.cl, clL, V.sc, scL, scO, scH, V.ct, ct1, ct2, RetP, RetK, RetH, retL, retOne, Back, Veq, subH, obs, obsIf, En.get, En.put, En.ev, enOf, gcond, wantB, constV, exGet, subE, Sub, RV, RVL, NR, RO, subER, subHR, newLt, oldNe, oldOk, oldGe, notIn, ivN, lookN, SubR, Nm.root, Nat.reduceMul, Nat.reduceLeDiff, Nat.reduceEqDiff, Nat.reduceLT, Nat.reduceAdd, Nat.reduceSub, ↓reduceIte, implies_true, reduceCtorEq, ne_eq, ↓shr_eq, IntKind.bits, Int.reduceToNat, Int.reducePow, dite_eq_ite, Value.oneCell', Nat.reduceBEq, Nat.reduceDiv, sd, nm, ty, tlsV, tlvD, tloV, tlvOD, tb, GK, GKf, Int.toNat_natCast]
          have hm := markI_u8 i p
          refine ⟨by omega, by omega, by omega, by omega, by omega, by omega, by omega, by omega, by omega, by omega, hm.1, hm.2, by constructor <;> omega,
            Again.intro (q + 1, vs.set i ⟨(vs.getD i default).tag, (vs.getD i default).data.set q (u8 (markI i p)), (vs.getD i default).kids⟩) ⟨by simp only; omega, q4.set hi hq⟩ (by simp only; omega) ?_⟩
          simp only [vquietR, vopsR, RetC, retW, cellR, undV, vgA, vbinN, vnn, isNilC, isIf, vconvH, vconvO, cvOk, frz1, frzE, jsOk, jsCo, rowsH, vgcH, vgH, vopsT, stepE, Kseq_app, vg_skip, vg_label, vg_seq, vg_region, vg_cond, vg_block, vg_exit, vg_ret, vg_loop, vcallF, vcallH, uls, HdelK, memN, noBox, ninL, keysH, jsAt, AdSub, adopt, noEl, isNil, effL, effO, vopsD, vquiet, vfstD, ldq, ldOk, vops, vfst, vone, vact, ug, addL, vbox, valloc, vstore, vbuild, vbuildSlice, vappend, vmake, zeroS, zeroE, vstrB, apC, nrm, nr1, nrL, keyL, neqs, diffs, V.app, V.len, vsrc, vdst, mkSl, mkBy, inOrd, placeAll, V.one, V.sto, V.csize, V.parts, V.cellsL, setMany, V.setB, V.setE, V.setO, V.noOwn, V.isOwn, vq, vcall, fzA, fz, fz1, fzL, fzN, rts, rt1, V.er, er1, er2, mixA, mixK, uargs, u1, R.add, vop, vbin, vint2, vstr2, vbool2, vnum, vun, vpick, vpick1, vbool, vconv, vnil, vfieldAddr, vindexAddr, vindex, vload, vfield, aggD, vslice, bnd, uopt, vlen, vmin, vextract, Hpk, Hroot, refV, ownR, V.i, V.elems, V.cell, V.cut, V.exact, V.ex0, exL, V.cl, clL, V.sc, scL, scO, scH, V.ct, ct1, ct2, RetP, RetK, RetH, retL, retOne, Back, Veq, subH, obs, obsIf, En.get, En.put, En.ev, enOf, gcond, wantB, constV, exGet, subE, Sub, RV, RVL, NR, RO, subER, subHR, newLt, oldNe, oldOk, oldGe, notIn, ivN, lookN, SubR, Nm.root, Nat.reduceMul, Nat.reduceLeDiff, Nat.reduceEqDiff, Nat.reduceLT, Nat.reduceAdd, Nat.reduceSub, ↓reduceIte, implies_true, reduceCtorEq, ne_eq, ↓shr_eq, IntKind.bits, Int.reduceToNat, Int.reducePow, dite_eq_ite, Value.oneCell', Nat.reduceBEq, Nat.reduceDiv, sd, nm, ty, tlsV, tlvD, tloV, tlvOD, tb]
          refine ⟨by omega, Nat.le_refl _⟩
        · simp only [decide_eq_false_iff_not] at hq
          rw [← hK3]
          simp only [vquietR, vopsR, RetC, retW, cellR, undV, vgA, vbinN, vnn, isNilC, isIf, vconvH, vconvO, cvOk, frz1, frzE, jsOk, jsCo, rowsH, vgcH, vgH, vopsT, stepE, Kseq_app, vg_skip, vg_label, vg_seq, vg_region, vg_cond, vg_block, vg_exit, vg_ret, vg_loop, vcallF, vcallH, uls, HdelK, memN, noBox, ninL, keysH, jsAt, AdSub, adopt, noEl, isNil, effL, effO, vopsD, vquiet, vfstD, ldq, ldOk, vops, vfst, vone, vact, ug, addL, vbox, valloc, vstore, vbuild, vbuildSlice, vappend, vmake, zeroS, zeroE, vstrB, apC, nrm, nr1, nrL, keyL, neqs, diffs, V.app, V.len, vsrc, vdst, mkSl, mkBy, inOrd, placeAll, V.one, V.sto, V.csize, V.parts, V.cellsL, setMany, V.setB, V.setE, V.setO, V.noOwn, V.isOwn, vq, vcall, fzA, fz, fz1, fzL, fzN, rts, rt1, V.er, er1, er2, mixA, mixK, uargs, u1, R.add, vop, vbin, vint2, vstr2, vbool2, vnum, vun, vpick, vpick1, vbool, vconv, vnil, vfieldAddr, vindexAddr, vindex, vload, vfield, aggD, vslice, bnd, uopt, vlen, vmin, vextract, Hpk, Hroot, refV, ownR, V.i, V.elems, V.cell, V.cut, V.exact, V.ex0, exL, V.cl, clL, V.sc, scL, scO, scH, V.ct, ct1, ct2, RetP, RetK, RetH, retL, retOne, Back, Veq, subH, obs, obsIf, En.get, En.put, En.ev, enOf, gcond, wantB, constV, exGet, subE, Sub, RV, RVL, NR, RO, subER, subHR, newLt, oldNe, oldOk, oldGe, notIn, ivN, lookN, SubR, Nm.root, Nat.reduceMul, Nat.reduceLeDiff, Nat.reduceEqDiff, Nat.reduceLT, Nat.reduceAdd, Nat.reduceSub, ↓reduceIte, implies_true, reduceCtorEq, ne_eq, ↓shr_eq, IntKind.bits, Int.reduceToNat, Int.reducePow, dite_eq_ite, Value.oneCell', Nat.reduceBEq, Nat.reduceDiv, sd, nm, ty, tlsV, tlvD, tloV, tlvOD, tb, GK, GKf]
          refine ⟨by constructor <;> omega, Again.intro (i + 1, vs) ⟨by simp only; omega, q4.next hi (by omega)⟩ (by simp only; omega) ?_⟩
          simp only [vquietR, vopsR, RetC, retW, cellR, undV, vgA, vbinN, vnn, isNilC, isIf, vconvH, vconvO, cvOk, frz1, frzE, jsOk, jsCo, rowsH, vgcH, vgH, vopsT, stepE, Kseq_app, vg_skip, vg_label, vg_seq, vg_region, vg_cond, vg_block, vg_exit, vg_ret, vg_loop, vcallF, vcallH, uls, HdelK, memN, noBox, ninL, keysH, jsAt, AdSub, adopt, noEl, isNil, effL, effO, vopsD, vquiet, vfstD, ldq, ldOk, vops, vfst, vone, vact, ug, addL, vbox, valloc, vstore, vbuild, vbuildSlice, vappend, vmake, zeroS, zeroE, vstrB, apC, nrm, nr1, nrL, keyL, neqs, diffs, V.app, V.len, vsrc, vdst, mkSl, mkBy, inOrd, placeAll, V.one, V.sto, V.csize, V.parts, V.cellsL, setMany, V.setB, V.setE, V.setO, V.noOwn, V.isOwn, vq, vcall, fzA, fz, fz1, fzL, fzN, rts, rt1, V.er, er1, er2, mixA, mixK, uargs, u1, R.add, vop, vbin, vint2, vstr2, vbool2, vnum, vun, vpick, vpick1, vbool, vconv, vnil, vfieldAddr, vindexAddr, vindex, vload, vfield, aggD, vslice, bnd, uopt, vlen, vmin, vextract, Hpk, Hroot, refV, ownR, V.i, V.elems, V.cell, V.cut, V.exact, V.ex0, exL, V.cl, clL, V.sc, scL, scO, scH, V.ct, ct1, ct2, RetP, RetK, RetH, retL, retOne, Back, Veq, subH, obs, obsIf, En.get, En.put, En.ev, enOf, gcond, wantB, constV, exGet, subE, Sub, RV, RVL, NR, RO, subER, subHR, newLt, oldNe, oldOk, oldGe, notIn, ivN, lookN, SubR, Nm.root, Nat.reduceMul, Nat.reduceLeDiff, Nat.reduceEqDiff, Nat.reduceLT, Nat.reduceAdd, Nat.reduceSub, ↓reduceIte, implies_true, reduceCtorEq, ne_eq, ↓shr_eq, IntKind.bits, Int.reduceToNat, Int.reducePow, dite_eq_ite, Value.oneCell', Nat.reduceBEq, Nat.reduceDiv, sd, nm, ty, tlsV, tlvD, tloV, tlvOD, tb]
          refine ⟨by omega, Nat.le_refl _⟩
    · simp only [decide_eq_false_iff_not] at hi
      obtain rfl : i = ts.length := by omega
      rw [← hK, q2.all]
      simp only [vquietR, vopsR, RetC, retW, cellR, undV, vgA, vbinN, vnn, isNilC, isIf, vconvH, vconvO, cvOk, frz1, frzE, jsOk, jsCo, rowsH, vgcH, vgH, vopsT, stepE, Kseq_app, vg_skip, vg_label, vg_seq, vg_region, vg_cond, vg_block, vg_exit, vg_ret, vg_loop, vcallF, vcallH, uls, HdelK, memN, noBox, ninL, keysH, jsAt, AdSub, adopt, noEl, isNil, effL, effO, vopsD, vquiet, vfstD, ldq, ldOk, vops, vfst, vone, vact, ug, addL, vbox, valloc, vstore, vbuild, vbuildSlice, vappend, vmake, zeroS, zeroE, vstrB, apC, nrm, nr1, nrL, keyL, neqs, diffs, V.app, V.len, vsrc, vdst, mkSl, mkBy, inOrd, placeAll, V.one, V.sto, V.csize, V.parts, V.cellsL, setMany, V.setB, V.setE, V.setO, V.noOwn, V.isOwn, vq, vcall, fzA, fz, fz1, fzL, fzN, rts, rt1, V.er, er1, er2, mixA, mixK, uargs, u1, R.add, vop, vbin, vint2, vstr2, vbool2, vnum, vun, vpick, vpick1, vbool, vconv, vnil, vfieldAddr, vindexAddr, vindex, vload, vfield, aggD, vslice, bnd, uopt, vlen, vmin, vextract, Hpk, Hroot, refV, ownR, V.i, V.elems, V.cell, V.cut, V.exact, V.ex0, exL, V.cl, clL, V.sc, scL, scO, scH, V.ct, ct1, ct2, RetP, RetK, RetH, retL, retOne, Back, Veq, subH, obs, obsIf, En.get, En.put, En.ev, enOf, gcond, wantB, constV, exGet, subE, Sub, RV, RVL, NR, RO, subER, subHR, newLt, oldNe, oldOk, oldGe, notIn, ivN, lookN, SubR, Nm.root, Nat.reduceMul, Nat.reduceLeDiff, Nat.reduceEqDiff, Nat.reduceLT, Nat.reduceAdd, Nat.reduceSub, ↓reduceIte, implies_true, reduceCtorEq, ne_eq, ↓shr_eq, IntKind.bits, Int.reduceToNat, Int.reducePow, dite_eq_ite, Value.oneCell', Nat.reduceBEq, Nat.reduceDiv, sd, nm, ty, tlsV, tlvD, tloV, tlvOD, tb, GK, GKf]
      exact Nat.le_refl _
end Go.Proofs.YtelaolingpbnfaaDoor
namespace Go.Proofs.YtelaolingpbnfaaDoor
open Go.RowKit
set_option linter.unusedSimpArgs false
set_option maxRecDepth 100000
/-- What follows, whatever the memory. -/
def Nxt (x : Fx) (R : Cx → Act → World → Prop) : S → Prop := fun s => ∀ F a w, Sat x s F a w → R F a w
theorem dsts_of {n : Nat} {l : List Oper} (h : (l.all fun o => match o.dst with | some d => decide (d < n) | none => true) = true) : dstsOk n l := by
  intro o hoo d hd
  have := List.all_eq_true.1 h o hoo
  rw [hd] at this
  simpa using this
theorem wp_append {P : Program} {a : Act} {w w' : World} {o : Oper} {T : TypeId} {X Y : Operand} {v' : Value} {K : Act → World → Prop} {Q : Exit → Act → World → Prop} (hop : o.op = .call { callee := .builtin .append, args := #[X, Y], argTypes := #[T, T] })
    (hrun : (Builtin.append_ #[T, T] o.type #[a.eval X, a.eval Y]).run P w = .ok v' w') (h : K (a.put o.dst v') w') : o.wp P a w K Q := by
  unfold Oper.wp execOp
  simp only [hop, resolve, invoke, builtin, Sem.run_bind, Sem.run_pure, Result.andThen_ok, List.map_toArray, List.map_cons, List.map_nil, hrun]
  exact h
noncomputable def k2 : Code := cL (cR (cR (cR kB)))
noncomputable def kB2 : Code := cR (cR (cR k2))
noncomputable def kI5 : Code := cR (cL (cR kB2))
noncomputable def kI : Code := cL (cR kI5)
noncomputable def kBI : Code := cR (cR (cR kI))
theorem kI_eq : kI = .seq (cL kI) (.block 6 (.loop kBI)) := by kernel_rfl
theorem kBI_eq : kBI = .seq (cL kBI) (.seq (.block 7 (cR (cL (cR kBI)))) (cR (cR kBI))) := by kernel_rfl
section
variable {x x0 : Fx} {F : Cx} {w : World} {a : Act} {X0 : Value} {xs : List Value} {hv : Nat → Value} {ts : List Tlv} {i : Nat}
abbrev grS (q : Nat) (y : Value) (p : Int) (i : Nat) (v0 : V) (g : Nat) (gr : V) (N : Nat) : S := ⟨[(10, .i q), (9, .val y), (1, .val (.int .i64 p)), (8, .i i), (0, v0), (7, .ro (.r g))], [(g, .row 25 gr)], N⟩
noncomputable def kR16 : Code := cR (cL (cR kBI))
theorem keeps_app (J : Inv) (hj : x0.J = J) (hn : x0.n = 119) {p : Int} {v0 gr : V} {g N q : Nat} {y : Value} {l : List UInt8} {Q : Exit → Act → World → Prop} (hb : Bas x0 X0 hv ts.length) (h : Fro x0 X0 xs hv ts i x F w)
    (hs : Sat x (grS q y p i v0 g gr N) F a w) (hg : g < N) (hi : i < ts.length) (hi2 : i ≤ 16777216) (hk : Kid w y l) (hyF : ∀ b, y.ownBlock = some b → x.F b) (hyB : ∀ b, y.ownBlock = some b → (hv i).ownBlock = some b ∨ x0.w.heap.size ≤ b)
    (hlen : (ts.getD i default).data.length ≤ l.length) (hl : l.length ≤ 16777306)
    (hQ : ∀ x F a w y N, Fro x0 X0 xs hv ts i x F w → Sat x (grS q y p i v0 g gr N) F a w → g < N → Kid w y (l ++ [u8 (moreI i p)]) → (∀ b, y.ownBlock = some b → x.F b) → (∀ b, y.ownBlock = some b → (hv i).ownBlock = some b ∨ x0.w.heap.size ≤ b) → Q .normal a w) :
    kR16.wp Tryd.prog Q a w := by
  have hm : Tryd.prog.follows .mixedOrders = true := by kernel_rfl
  have hT : Tryd.prog.underlying 25 = some (.slice 5) := Tryd.underlying25
  have hri : rowInfo Tryd.prog 5 = some (1, 1) := by kernel_rfl
  have hmo := moreI_u8 i p
  obtain ⟨r2, hs2⟩ := hs.root h.root
  have hst := fun s' F' a' w' h' => h.step (x1 := x.at (grS q y p i v0 g gr N).h F w) (s' := s') (F' := F') (a' := a') (w' := w') hs r2 rfl rfl rfl (fun b h2 h3 => ⟨h2, h3⟩) h'
  generalize hx2 : x.at (grS q y p i v0 g gr N).h F w = x2 at r2 hs2 hst
  have hx2j : x2.J = J := r2.j.trans hj
  have hx2n : x2.n = 119 := r2.n.trans hn
  simp only [kR16, kBI, kI, kI5, kB2, k2, kB, cL, cR, Tryd.f48, Option.getD_some]
  refine wp_region_list ?_
  show wpList Tryd.prog _ Q ([_, _, _, _, _] ++ [_, _]) a w
  refine vopsL_ok (G := GK J N) (K := Nxt x2 fun F a w => wpList Tryd.prog _ Q [_, _] a w) (GK_ok J N) hx2j _ (fun s' F' a' w' h' hs' => h' F' a' w' hs') _ _ F a w (by rw [hx2n]; exact dsts_of (by kernel_rfl)) ?_ hs2
  simp only [vquietR, vopsR, RetC, retW, cellR, undV, vgA, vbinN, vnn, isNilC, isIf, vconvH, vconvO, cvOk, frz1, frzE, jsOk, jsCo, rowsH, vgcH, vgH, vopsT, stepE, Kseq_app, vg_skip, vg_label, vg_seq, vg_region, vg_cond, vg_block, vg_exit, vg_ret, vg_loop, vcallF, vcallH, uls, HdelK, memN, noBox, ninL, keysH, jsAt, AdSub, adopt, noEl, isNil, effL, effO, vopsD, vquiet, vfstD, ldq, ldOk, vops, vfst, vone, vact, ug, addL, vbox, valloc, vstore, vbuild, vbuildSlice, vappend, vmake, zeroS, zeroE, vstrB, apC, nrm, nr1, nrL, keyL, neqs, diffs, V.app, V.len, vsrc, vdst, mkSl, mkBy, inOrd, placeAll, V.one, V.sto, V.csize, V.parts, V.cellsL, setMany, V.setB, V.setE, V.setO, V.noOwn, V.isOwn, vq, vcall, fzA, fz, fz1, fzL, fzN, rts, rt1, V.er, er1, er2, mixA, mixK, uargs, u1, R.add, vop, vbin, vint2, vstr2, vbool2, vnum, vun, vpick, vpick1, vbool, vconv, vnil, vfieldAddr, vindexAddr, vindex, vload, vfield, aggD, vslice, bnd, uopt, vlen, vmin, vextract, Hpk, Hroot, refV, ownR, V.i, V.elems, V.cell, V.cut, V.exact, V.ex0, exL, V.cl, clL, V.sc, scL, scO, scH, V.ct, ct1, ct2, RetP, RetK, RetH, retL, retOne, Back, Veq, subH, obs, obsIf, En.get, En.put, En.ev, enOf, gcond, wantB, constV, exGet, subE, Sub, RV, RVL, NR, RO, subER, subHR, newLt, oldNe, oldOk, oldGe, notIn, ivN, lookN, SubR, Nm.root, Nat.reduceMul, Nat.reduceLeDiff, Nat.reduceEqDiff, Nat.reduceLT, Nat.reduceAdd, Nat.reduceSub, ↓reduceIte, implies_true, reduceCtorEq, ne_eq, ↓shr_eq, IntKind.bits, Int.reduceToNat, Int.reducePow, dite_eq_ite, Value.oneCell', Nat.reduceBEq, Nat.reduceDiv, sd, nm, ty, tlsV, tlvD, tloV, tlvOD, tb, GK, GKf, grS]
  refine ⟨by omega, by omega, hmo.1, hmo.2, fun F5 a5 w5 hs5 => ?_⟩
  obtain ⟨h5, hkk⟩ := hst _ _ _ _ hs5
  obtain ⟨hk5, hyF5⟩ := hkk y _ hk hyF
  clear hst hkk hs h hk hyF hs2 hx2
  have e1 : a5.eval (.tmp 55) = y := rep_val (hs5.env 55 _ rfl).2
  obtain ⟨v', w6, hrun, x6, F6, hs6, h6, hk6, hyF6, hyB6⟩ := h5.app (P := Tryd.prog) (T := 25) (ty := 25) (c := u8 (moreI i p)) (t := 60) hb hs5 hi hk5 hyF5 hyB hlen (hs5.env 59 _ rfl).2 (by simp [vsrc, Hpk, Hroot]) (by omega) (by rw [hx2n]; omega) hT hri
  refine wpList_plain rfl fun K' hK' => ?_
  refine wp_append rfl (by rw [e1]; exact hrun) (hK' _ _ ?_)
  clear hK' K'
  obtain ⟨r7, hs7⟩ := hs6.root h6.root
  have hst := fun s' F' a' w' h' => h6.step (x1 := x6.at [(N, .row 5 (.by [u8 (moreI i p)])), (g, .row 25 gr)] F6 w6) (s' := s') (F' := F') (a' := a') (w' := w') hs6 r7 rfl rfl rfl (fun b h2 h3 => ⟨h2, h3⟩) h'
  refine vops_ok (G := GK J (N + 1)) (K := Nxt (x6.at [(N, .row 5 (.by [u8 (moreI i p)])), (g, .row 25 gr)] F6 w6) fun F a w => Q .normal a w) (GK_ok J (N + 1)) (r7.j.trans hj) (fun s' F' a' w' h' hs' => h' F' a' w' hs') _ _ F6 _ w6 (by rw [r7.n.trans hn]; exact dsts_of (by kernel_rfl)) ?_ hs7
  simp only [vquietR, vopsR, RetC, retW, cellR, undV, vgA, vbinN, vnn, isNilC, isIf, vconvH, vconvO, cvOk, frz1, frzE, jsOk, jsCo, rowsH, vgcH, vgH, vopsT, stepE, Kseq_app, vg_skip, vg_label, vg_seq, vg_region, vg_cond, vg_block, vg_exit, vg_ret, vg_loop, vcallF, vcallH, uls, HdelK, memN, noBox, ninL, keysH, jsAt, AdSub, adopt, noEl, isNil, effL, effO, vopsD, vquiet, vfstD, ldq, ldOk, vops, vfst, vone, vact, ug, addL, vbox, valloc, vstore, vbuild, vbuildSlice, vappend, vmake, zeroS, zeroE, vstrB, apC, nrm, nr1, nrL, keyL, neqs, diffs, V.app, V.len, vsrc, vdst, mkSl, mkBy, inOrd, placeAll, V.one, V.sto, V.csize, V.parts, V.cellsL, setMany, V.setB, V.setE, V.setO, V.noOwn, V.isOwn, vq, vcall, fzA, fz, fz1, fzL, fzN, rts, rt1, V.er, er1, er2, mixA, mixK, uargs, u1, R.add, vop, vbin, vint2, vstr2, vbool2, vnum, vun, vpick, vpick1, vbool, vconv, vnil, vfieldAddr, vindexAddr, vindex, vload, vfield, aggD, vslice, bnd, uopt, vlen, vmin, vextract, Hpk, Hroot, refV, ownR, V.i, V.elems, V.cell, V.cut, V.exact, V.ex0, exL, V.cl, clL, V.sc, scL, scO, scH, V.ct, ct1, ct2, RetP, RetK, RetH, retL, retOne, Back, Veq, subH, obs, obsIf, En.get, En.put, En.ev, enOf, gcond, wantB, constV, exGet, subE, Sub, RV, RVL, NR, RO, subER, subHR, newLt, oldNe, oldOk, oldGe, notIn, ivN, lookN, SubR, Nm.root, Nat.reduceMul, Nat.reduceLeDiff, Nat.reduceEqDiff, Nat.reduceLT, Nat.reduceAdd, Nat.reduceSub, ↓reduceIte, implies_true, reduceCtorEq, ne_eq, ↓shr_eq, IntKind.bits, Int.reduceToNat, Int.reducePow, dite_eq_ite, Value.oneCell', Nat.reduceBEq, Nat.reduceDiv, sd, nm, ty, tlsV, tlvD, tloV, tlvOD, tb, GK, GKf]
  intro F8 a8 w8 hs8
  obtain ⟨h8, hkk⟩ := hst _ _ _ _ hs8
  obtain ⟨hk8, hyF8⟩ := hkk v' _ hk6 hyF6
  refine hQ _ F8 a8 w8 v' (N + 1) h8 (hs8.sub ?_) (by omega) hk8 hyF8 hyB6
  have n1 : (N = g) = False := by simp; omega
  simp only [vquietR, vopsR, RetC, retW, cellR, undV, vgA, vbinN, vnn, isNilC, isIf, vconvH, vconvO, cvOk, frz1, frzE, jsOk, jsCo, rowsH, vgcH, vgH, vopsT, stepE, Kseq_app, vg_skip, vg_label, vg_seq, vg_region, vg_cond, vg_block, vg_exit, vg_ret, vg_loop, vcallF, vcallH, uls, HdelK, memN, noBox, ninL, keysH, jsAt, AdSub, adopt, noEl, isNil, effL, effO, vopsD, vquiet, vfstD, ldq, ldOk, vops, vfst, vone, vact, ug, addL, vbox, valloc, vstore, vbuild, vbuildSlice, vappend, vmake, zeroS, zeroE, vstrB, apC, nrm, nr1, nrL, keyL, neqs, diffs, V.app, V.len, vsrc, vdst, mkSl, mkBy, inOrd, placeAll, V.one, V.sto, V.csize, V.parts, V.cellsL, setMany, V.setB, V.setE, V.setO, V.noOwn, V.isOwn, vq, vcall, fzA, fz, fz1, fzL, fzN, rts, rt1, V.er, er1, er2, mixA, mixK, uargs, u1, R.add, vop, vbin, vint2, vstr2, vbool2, vnum, vun, vpick, vpick1, vbool, vconv, vnil, vfieldAddr, vindexAddr, vindex, vload, vfield, aggD, vslice, bnd, uopt, vlen, vmin, vextract, Hpk, Hroot, refV, ownR, V.i, V.elems, V.cell, V.cut, V.exact, V.ex0, exL, V.cl, clL, V.sc, scL, scO, scH, V.ct, ct1, ct2, RetP, RetK, RetH, retL, retOne, Back, Veq, subH, obs, obsIf, En.get, En.put, En.ev, enOf, gcond, wantB, constV, exGet, subE, Sub, RV, RVL, NR, RO, subER, subHR, newLt, oldNe, oldOk, oldGe, notIn, ivN, lookN, SubR, Nm.root, Nat.reduceMul, Nat.reduceLeDiff, Nat.reduceEqDiff, Nat.reduceLT, Nat.reduceAdd, Nat.reduceSub, ↓reduceIte, implies_true, reduceCtorEq, ne_eq, ↓shr_eq, IntKind.bits, Int.reduceToNat, Int.reducePow, dite_eq_ite, Value.oneCell', Nat.reduceBEq, Nat.reduceDiv, sd, nm, ty, tlsV, tlvD, tloV, tlvOD, tb, grS, n1]
  exact Nat.le_refl _
theorem keeps_grow (J : Inv) (hj : x0.J = J) (hn : x0.n = 119) {p : Int} {v0 gr : V} {g N : Nat} {y : Value} {l : List UInt8} {Q : Exit → Act → World → Prop} (hb : Bas x0 X0 hv ts.length) (h : Fro x0 X0 xs hv ts i x F w)
    (hs : Sat x ⟨[(9, .val y), (1, .val (.int .i64 p)), (8, .i i), (0, v0), (7, .ro (.r g))], [(g, .row 25 gr)], N⟩ F a w) (hg : g < N) (hi : i < ts.length) (hi2 : i ≤ 16777216) (hk : Kid w y l) (hyF : ∀ b, y.ownBlock = some b → x.F b) (hyB : ∀ b, y.ownBlock = some b → (hv i).ownBlock = some b ∨ x0.w.heap.size ≤ b)
    (hlen : (ts.getD i default).data.length ≤ l.length) (hl : l.length ≤ 16777216)
    (hQ : ∀ x F a w y N, Fro x0 X0 xs hv ts i x F w → Sat x (grS 90 y p i v0 g gr N) F a w → g < N → Kid w y (l ++ List.replicate 90 (u8 (moreI i p))) → (∀ b, y.ownBlock = some b → x.F b) → (∀ b, y.ownBlock = some b → (hv i).ownBlock = some b ∨ x0.w.heap.size ≤ b) → Q .normal a w) :
    kI.wp Tryd.prog Q a w := by
  have hm : Tryd.prog.follows .mixedOrders = true := by kernel_rfl
  have hT : Tryd.prog.underlying 25 = some (.slice 5) := Tryd.underlying25
  have hri : rowInfo Tryd.prog 5 = some (1, 1) := by kernel_rfl
  have hmo := moreI_u8 i p
  rw [kI_eq]
  refine wp_seq ?_
  refine piece (G := GK J N) h.root hs (GK_ok J N) (h.root.j.trans hj) rfl hm (by rw [h.root.n, hn]; kernel_rfl) (K := ⟨fun s' => Sub s' (grS 0 y p i v0 g gr N), fun _ => False, []⟩) ?_ (fun x1 r1 hj1 hn1 hw hX hC hF => ⟨fun s' F1 a1 w1 hsub hs1 => ?_, fun _ _ _ _ h => h.elim, fun _ _ h => by simp [exGet] at h⟩)
  · simp only [kI, kI5, kB2, k2, kB, cL, cR, Tryd.f48, Option.getD_some]
    simp only [vquietR, vopsR, RetC, retW, cellR, undV, vgA, vbinN, vnn, isNilC, isIf, vconvH, vconvO, cvOk, frz1, frzE, jsOk, jsCo, rowsH, vgcH, vgH, vopsT, stepE, Kseq_app, vg_skip, vg_label, vg_seq, vg_region, vg_cond, vg_block, vg_exit, vg_ret, vg_loop, vcallF, vcallH, uls, HdelK, memN, noBox, ninL, keysH, jsAt, AdSub, adopt, noEl, isNil, effL, effO, vopsD, vquiet, vfstD, ldq, ldOk, vops, vfst, vone, vact, ug, addL, vbox, valloc, vstore, vbuild, vbuildSlice, vappend, vmake, zeroS, zeroE, vstrB, apC, nrm, nr1, nrL, keyL, neqs, diffs, V.app, V.len, vsrc, vdst, mkSl, mkBy, inOrd, placeAll, V.one, V.sto, V.csize, V.parts, V.cellsL, setMany, V.setB, V.setE, V.setO, V.noOwn, V.isOwn, vq, vcall, fzA, fz, fz1, fzL, fzN, rts, rt1, V.er, er1, er2, mixA, mixK, uargs, u1, R.add, vop, vbin, vint2, vstr2, vbool2, vnum, vun, vpick, vpick1, vbool, vconv, vnil, vfieldAddr, vindexAddr, vindex, vload, vfield, aggD, vslice, bnd, uopt, vlen, vmin, vextract, Hpk, Hroot, refV, ownR, V.i, V.elems, V.cell, V.cut, V.exact, V.ex0, exL, V.cl, clL, V.sc, scL, scO, scH, V.ct, ct1, ct2, RetP, RetK, RetH, retL, retOne, Back, Veq, subH, obs, obsIf, En.get, En.put, En.ev, enOf, gcond, wantB, constV, exGet, subE, Sub, RV, RVL, NR, RO, subER, subHR, newLt, oldNe, oldOk, oldGe, notIn, ivN, lookN, SubR, Nm.root, Nat.reduceMul, Nat.reduceLeDiff, Nat.reduceEqDiff, Nat.reduceLT, Nat.reduceAdd, Nat.reduceSub, ↓reduceIte, implies_true, reduceCtorEq, ne_eq, ↓shr_eq, IntKind.bits, Int.reduceToNat, Int.reducePow, dite_eq_ite, Value.oneCell', Nat.reduceBEq, Nat.reduceDiv, sd, nm, ty, tlsV, tlvD, tloV, tlvOD, tb, GK, GKf, grS]
    simp
  · obtain ⟨h1, hkk⟩ := h.step hs r1 hw hX hC hF hs1
    obtain ⟨hk1, hyF1⟩ := hkk y l hk hyF
    have hs1 := hs1.sub hsub
    clear hs hk hyF h hkk hsub
    show (Code.block 6 (.loop kBI)).wp Tryd.prog Q a1 w1
    refine wp_block ?_
    refine wp_loop_ghost (fun n a w => ∃ q y N x F, n = 90 - q ∧ q ≤ 90 ∧ Fro x0 X0 xs hv ts i x F w ∧ Sat x (grS q y p i v0 g gr N) F a w ∧ g < N ∧ Kid w y (l ++ List.replicate q (u8 (moreI i p))) ∧ (∀ b, y.ownBlock = some b → x.F b) ∧ (∀ b, y.ownBlock = some b → (hv i).ownBlock = some b ∨ x0.w.heap.size ≤ b))
      90 ⟨0, y, N, x1, F1, rfl, by omega, h1, hs1, hg, by simpa using hk1, hyF1, hyB⟩ ?_
    clear hs1 hk1 hyF1 h1 hg hyB
    rintro n a w ⟨q, y, N, x, F, rfl, hq, h, hs, hg, hk, hyF, hyB⟩
    rw [kBI_eq]
    refine wp_seq ?_
    refine piece (G := GK J N) h.root hs (GK_ok J N) (h.root.j.trans hj) rfl hm (by rw [h.root.n, hn]; kernel_rfl) (K := ⟨fun s' => Sub s' (grS q y p i v0 g gr N) ∧ q < 90, fun _ => False, [(6, fun s' => Sub s' (grS q y p i v0 g gr N) ∧ q = 90)]⟩) ?_ (fun x1 r1 hj1 hn1 hw hX hC hF => ⟨fun s' F1 a1 w1 hsub hs1 => ?_, fun _ _ _ _ h => h.elim, fun id k hid s' F1 a1 w1 hsub hs1 => ?_⟩)
    · simp only [kBI, kI, kI5, kB2, k2, kB, cL, cR, Tryd.f48, Option.getD_some]
      simp only [vquietR, vopsR, RetC, retW, cellR, undV, vgA, vbinN, vnn, isNilC, isIf, vconvH, vconvO, cvOk, frz1, frzE, jsOk, jsCo, rowsH, vgcH, vgH, vopsT, stepE, Kseq_app, vg_skip, vg_label, vg_seq, vg_region, vg_cond, vg_block, vg_exit, vg_ret, vg_loop, vcallF, vcallH, uls, HdelK, memN, noBox, ninL, keysH, jsAt, AdSub, adopt, noEl, isNil, effL, effO, vopsD, vquiet, vfstD, ldq, ldOk, vops, vfst, vone, vact, ug, addL, vbox, valloc, vstore, vbuild, vbuildSlice, vappend, vmake, zeroS, zeroE, vstrB, apC, nrm, nr1, nrL, keyL, neqs, diffs, V.app, V.len, vsrc, vdst, mkSl, mkBy, inOrd, placeAll, V.one, V.sto, V.csize, V.parts, V.cellsL, setMany, V.setB, V.setE, V.setO, V.noOwn, V.isOwn, vq, vcall, fzA, fz, fz1, fzL, fzN, rts, rt1, V.er, er1, er2, mixA, mixK, uargs, u1, R.add, vop, vbin, vint2, vstr2, vbool2, vnum, vun, vpick, vpick1, vbool, vconv, vnil, vfieldAddr, vindexAddr, vindex, vload, vfield, aggD, vslice, bnd, uopt, vlen, vmin, vextract, Hpk, Hroot, refV, ownR, V.i, V.elems, V.cell, V.cut, V.exact, V.ex0, exL, V.cl, clL, V.sc, scL, scO, scH, V.ct, ct1, ct2, RetP, RetK, RetH, retL, retOne, Back, Veq, subH, obs, obsIf, En.get, En.put, En.ev, enOf, gcond, wantB, constV, exGet, subE, Sub, RV, RVL, NR, RO, subER, subHR, newLt, oldNe, oldOk, oldGe, notIn, ivN, lookN, SubR, Nm.root, Nat.reduceMul, Nat.reduceLeDiff, Nat.reduceEqDiff, Nat.reduceLT, Nat.reduceAdd, Nat.reduceSub, ↓reduceIte, implies_true, reduceCtorEq, ne_eq, ↓shr_eq, IntKind.bits, Int.reduceToNat, Int.reducePow, dite_eq_ite, Value.oneCell', Nat.reduceBEq, Nat.reduceDiv, sd, nm, ty, tlsV, tlvD, tloV, tlvOD, tb, GK, GKf, grS]
      refine ⟨fun h => ⟨Nat.le_refl _, ?_⟩, fun h => ⟨Nat.le_refl _, ?_⟩⟩
      · simp only [decide_eq_true_eq] at h; omega
      · simp only [decide_eq_false_iff_not] at h; omega
    · obtain ⟨hsub, hq2⟩ := hsub
      obtain ⟨h1, hkk⟩ := h.step hs r1 hw hX hC hF hs1
      obtain ⟨hk1, hyF1⟩ := hkk y _ hk hyF
      have hs1 := hs1.sub hsub
      clear hs hk hyF h hkk hsub r1 hw hX hC hF hn1 hj1
      show (Code.seq (.block 7 (cR (cL (cR kBI)))) (cR (cR kBI))).wp Tryd.prog _ a1 w1
      refine wp_seq (wp_block ?_)
      refine keeps_app J hj hn hb h1 hs1 hg hi hi2 hk1 hyF1 hyB (by rw [List.length_append]; omega) (by rw [List.length_append, List.length_replicate]; omega) fun x F a w y N h hs hg hk hyF hyB => ?_
      clear h1 hs1 hk1 hyF1
      show (cR (cR kBI)).wp Tryd.prog _ a w
      refine piece (G := GK J N) h.root hs (GK_ok J N) (h.root.j.trans hj) rfl hm (by rw [h.root.n, hn]; kernel_rfl) (K := ⟨fun s' => Sub s' (grS (q + 1) y p i v0 g gr N), fun _ => False, []⟩) ?_ (fun x1 r1 hj1 hn1 hw hX hC hF => ⟨fun s' F1 a1 w1 hsub hs1 => ?_, fun _ _ _ _ h => h.elim, fun _ _ h => by simp [exGet] at h⟩)
      · simp only [kBI, kI, kI5, kB2, k2, kB, cL, cR, Tryd.f48, Option.getD_some]
        simp only [vquietR, vopsR, RetC, retW, cellR, undV, vgA, vbinN, vnn, isNilC, isIf, vconvH, vconvO, cvOk, frz1, frzE, jsOk, jsCo, rowsH, vgcH, vgH, vopsT, stepE, Kseq_app, vg_skip, vg_label, vg_seq, vg_region, vg_cond, vg_block, vg_exit, vg_ret, vg_loop, vcallF, vcallH, uls, HdelK, memN, noBox, ninL, keysH, jsAt, AdSub, adopt, noEl, isNil, effL, effO, vopsD, vquiet, vfstD, ldq, ldOk, vops, vfst, vone, vact, ug, addL, vbox, valloc, vstore, vbuild, vbuildSlice, vappend, vmake, zeroS, zeroE, vstrB, apC, nrm, nr1, nrL, keyL, neqs, diffs, V.app, V.len, vsrc, vdst, mkSl, mkBy, inOrd, placeAll, V.one, V.sto, V.csize, V.parts, V.cellsL, setMany, V.setB, V.setE, V.setO, V.noOwn, V.isOwn, vq, vcall, fzA, fz, fz1, fzL, fzN, rts, rt1, V.er, er1, er2, mixA, mixK, uargs, u1, R.add, vop, vbin, vint2, vstr2, vbool2, vnum, vun, vpick, vpick1, vbool, vconv, vnil, vfieldAddr, vindexAddr, vindex, vload, vfield, aggD, vslice, bnd, uopt, vlen, vmin, vextract, Hpk, Hroot, refV, ownR, V.i, V.elems, V.cell, V.cut, V.exact, V.ex0, exL, V.cl, clL, V.sc, scL, scO, scH, V.ct, ct1, ct2, RetP, RetK, RetH, retL, retOne, Back, Veq, subH, obs, obsIf, En.get, En.put, En.ev, enOf, gcond, wantB, constV, exGet, subE, Sub, RV, RVL, NR, RO, subER, subHR, newLt, oldNe, oldOk, oldGe, notIn, ivN, lookN, SubR, Nm.root, Nat.reduceMul, Nat.reduceLeDiff, Nat.reduceEqDiff, Nat.reduceLT, Nat.reduceAdd, Nat.reduceSub, ↓reduceIte, implies_true, reduceCtorEq, ne_eq, ↓shr_eq, IntKind.bits, Int.reduceToNat, Int.reducePow, dite_eq_ite, Value.oneCell', Nat.reduceBEq, Nat.reduceDiv, sd, nm, ty, tlsV, tlvD, tloV, tlvOD, tb, GK, GKf, grS]
        refine ⟨by constructor <;> omega, by omega, Nat.le_refl _⟩
      · obtain ⟨h1, hkk⟩ := h.step hs r1 hw hX hC hF hs1
        obtain ⟨hk1, hyF1⟩ := hkk y _ hk hyF
        refine ⟨90 - (q + 1), by omega, q + 1, y, N, x1, F1, rfl, by omega, h1, hs1.sub hsub, hg, ?_, hyF1, hyB⟩
        rw [List.append_assoc, ← List.replicate_succ'] at hk1
        exact hk1
    · simp only [exGet] at hid
      split at hid
      · rename_i e; subst e
        obtain rfl := Option.some.inj hid
        obtain ⟨hsub, rfl⟩ := hsub
        obtain ⟨h1, hkk⟩ := h.step hs r1 hw hX hC hF hs1
        obtain ⟨hk1, hyF1⟩ := hkk y _ hk hyF
        exact hQ x1 F1 a1 w1 y N h1 (hs1.sub hsub) hg hk1 hyF1 hyB
      · cases hid
end
end Go.Proofs.YtelaolingpbnfaaDoor
namespace Go.Proofs.YtelaolingpbnfaaDoor
open Go.RowKit
set_option linter.unusedSimpArgs false
set_option maxRecDepth 100000
theorem kB2_eq : kB2 = .seq (cL kB2) (.seq (.block 5 kI5) (cR (cR kB2))) := by kernel_rfl
theorem kI5_eq : kI5 = .seq (cL kI5) (.seq kI (cR (cR kI5))) := by kernel_rfl
theorem k2_eq : k2 = .seq (cL k2) (.block 4 (.loop kB2)) := by kernel_rfl
def grL (ts : List Tlv) (p : Int) (i : Nat) : List V := (List.range i).map fun j => .by ((ts.getD j default).data ++ List.replicate 90 (u8 (moreI j p)))
theorem grL_len (ts : List Tlv) (p : Int) (i : Nat) : (grL ts p i).length = i := by simp [grL]
theorem grL_succ (ts : List Tlv) (p : Int) (i : Nat) : grL ts p i ++ [.by ((ts.getD i default).data ++ List.replicate 90 (u8 (moreI i p)))] = grL ts p (i + 1) := by simp [grL, List.range_succ]
theorem grL_get (ts : List Tlv) (p : Int) {n i : Nat} (h : i < n) (d : V) : (grL ts p n).getD i d = .by ((ts.getD i default).data ++ List.replicate 90 (u8 (moreI i p))) := by
  rw [grL, List.getD_eq_getElem?_getD, List.getElem?_map, List.getElem?_range h]; rfl
abbrev hdV (ts : List Tlv) (hv : Nat → Value) : V := .sq 3 tlvD (lst ts fun i => .val (hv i))
abbrev lpS (ts : List Tlv) (hv : Nat → Value) (p : Int) (i g N : Nat) : S := ⟨[(8, .i i), (0, hdV ts hv), (1, .val (.int .i64 p)), (7, .ro (.r g))], [(g, .row 25 (.sq 1 (.by []) (grL ts p i)))], N⟩
section
variable {x x0 : Fx} {F : Cx} {w : World} {a : Act} {X0 : Value} {xs : List Value} {hv : Nat → Value} {ts : List Tlv}
theorem keeps_l2 (J : Inv) (hj : x0.J = J) (hn : x0.n = 119) {p : Int} {N : Nat} {Q : Exit → Act → World → Prop} (hb : Bas x0 X0 hv ts.length) (h : Fro x0 X0 xs hv ts 0 x F w)
    (hs : Sat x ⟨[(0, hdV ts hv), (1, .val (.int .i64 p)), (7, .val (.slice none 0 0))], [], N⟩ F a w) (hl : ts.length ≤ 16777216) (hd : ∀ i, i < ts.length → (ts.getD i default).data.length ≤ 16777216)
    (hQ : ∀ x F a w g N, Fro x0 X0 xs hv ts ts.length x F w → Sat x (lpS ts hv p ts.length g N) F a w → g < N → Q .normal a w) : k2.wp Tryd.prog Q a w := by
  have hm : Tryd.prog.follows .mixedOrders = true := by kernel_rfl
  rw [k2_eq]
  refine wp_seq ?_
  refine piece (G := GK J N) h.root hs (GK_ok J N) (h.root.j.trans hj) rfl hm (by rw [h.root.n, hn]; kernel_rfl) (K := ⟨fun s' => Sub s' ⟨[(8, .i 0), (0, hdV ts hv), (1, .val (.int .i64 p)), (7, .val (.slice none 0 0))], [], N⟩, fun _ => False, []⟩) ?_ (fun x1 r1 hj1 hn1 hw hX hC hF => ⟨fun s' F1 a1 w1 hsub hs1 => ?_, fun _ _ _ _ h => h.elim, fun _ _ h => by simp [exGet] at h⟩)
  · simp only [k2, kB, cL, cR, Tryd.f48, Option.getD_some]
    simp only [vquietR, vopsR, RetC, retW, cellR, undV, vgA, vbinN, vnn, isNilC, isIf, vconvH, vconvO, cvOk, frz1, frzE, jsOk, jsCo, rowsH, vgcH, vgH, vopsT, stepE, Kseq_app, vg_skip, vg_label, vg_seq, vg_region, vg_cond, vg_block, vg_exit, vg_ret, vg_loop, vcallF, vcallH, uls, HdelK, memN, noBox, ninL, keysH, jsAt, AdSub, adopt, noEl, isNil, effL, effO, vopsD, vquiet, vfstD, ldq, ldOk, vops, vfst, vone, vact, ug, addL, vbox, valloc, vstore, vbuild, vbuildSlice, vappend, vmake, zeroS, zeroE, vstrB, apC, nrm, nr1, nrL, keyL, neqs, diffs, V.app, V.len, vsrc, vdst, mkSl, mkBy, inOrd, placeAll, V.one, V.sto, V.csize, V.parts, V.cellsL, setMany, V.setB, V.setE, V.setO, V.noOwn, V.isOwn, vq, vcall, fzA, fz, fz1, fzL, fzN, rts, rt1, V.er, er1, er2, mixA, mixK, uargs, u1, R.add, vop, vbin, vint2, vstr2, vbool2, vnum, vun, vpick, vpick1, vbool, vconv, vnil, vfieldAddr, vindexAddr, vindex, vload, vfield, aggD, vslice, bnd, uopt, vlen, vmin, vextract, Hpk, Hroot, refV, ownR, V.i, V.elems, V.cell, V.cut, V.exact, V.ex0, exL, V.cl, clL, V.sc, scL, scO, scH, V.ct, ct1, ct2, RetP, RetK, RetH, retL, retOne, Back, Veq, subH, obs, obsIf, En.get, En.put, En.ev, enOf, gcond, wantB, constV, exGet, subE, Sub, RV, RVL, NR, RO, subER, subHR, newLt, oldNe, oldOk, oldGe, notIn, ivN, lookN, SubR, Nm.root, Nat.reduceMul, Nat.reduceLeDiff, Nat.reduceEqDiff, Nat.reduceLT, Nat.reduceAdd, Nat.reduceSub, ↓reduceIte, implies_true, reduceCtorEq, ne_eq, ↓shr_eq, IntKind.bits, Int.reduceToNat, Int.reducePow, dite_eq_ite, Value.oneCell', Nat.reduceBEq, Nat.reduceDiv, sd, nm, ty, tlsV, tlvD, tloV, tlvOD, tb, GK, GKf]
    exact Nat.le_refl _
  · obtain ⟨h1, _⟩ := h.step hs r1 hw hX hC hF hs1
    have hs1 := hs1.sub hsub
    obtain ⟨r2, hs2⟩ := hs1.root h1.root
    obtain ⟨F2, hs3⟩ := hs2.adsub (ad := [.sl 7 25 (.sq 1 (.by []) [])]) (t := lpS ts hv p 0 N (N + 1)) (by
      simp only [vquietR, vopsR, RetC, retW, cellR, undV, vgA, vbinN, vnn, isNilC, isIf, vconvH, vconvO, cvOk, frz1, frzE, jsOk, jsCo, rowsH, vgcH, vgH, vopsT, stepE, Kseq_app, vg_skip, vg_label, vg_seq, vg_region, vg_cond, vg_block, vg_exit, vg_ret, vg_loop, vcallF, vcallH, uls, HdelK, memN, noBox, ninL, keysH, jsAt, AdSub, adopt, noEl, isNil, effL, effO, vopsD, vquiet, vfstD, ldq, ldOk, vops, vfst, vone, vact, ug, addL, vbox, valloc, vstore, vbuild, vbuildSlice, vappend, vmake, zeroS, zeroE, vstrB, apC, nrm, nr1, nrL, keyL, neqs, diffs, V.app, V.len, vsrc, vdst, mkSl, mkBy, inOrd, placeAll, V.one, V.sto, V.csize, V.parts, V.cellsL, setMany, V.setB, V.setE, V.setO, V.noOwn, V.isOwn, vq, vcall, fzA, fz, fz1, fzL, fzN, rts, rt1, V.er, er1, er2, mixA, mixK, uargs, u1, R.add, vop, vbin, vint2, vstr2, vbool2, vnum, vun, vpick, vpick1, vbool, vconv, vnil, vfieldAddr, vindexAddr, vindex, vload, vfield, aggD, vslice, bnd, uopt, vlen, vmin, vextract, Hpk, Hroot, refV, ownR, V.i, V.elems, V.cell, V.cut, V.exact, V.ex0, exL, V.cl, clL, V.sc, scL, scO, scH, V.ct, ct1, ct2, RetP, RetK, RetH, retL, retOne, Back, Veq, subH, obs, obsIf, En.get, En.put, En.ev, enOf, gcond, wantB, constV, exGet, subE, Sub, RV, RVL, NR, RO, subER, subHR, newLt, oldNe, oldOk, oldGe, notIn, ivN, lookN, SubR, Nm.root, Nat.reduceMul, Nat.reduceLeDiff, Nat.reduceEqDiff, Nat.reduceLT, Nat.reduceAdd, Nat.reduceSub, ↓reduceIte, implies_true, reduceCtorEq, ne_eq, ↓shr_eq, IntKind.bits, Int.reduceToNat, Int.reducePow, dite_eq_ite, Value.oneCell', Nat.reduceBEq, Nat.reduceDiv, sd, nm, ty, tlsV, tlvD, tloV, tlvOD, tb]
      simp [grL])
    have h3 := (h1.step hs1 r2 rfl rfl rfl (fun b h2 h3 => ⟨h2, h3⟩) hs3).1
    clear h hs hs1 hs2 h1 hsub r1 hX hC hF hw
    show (Code.block 4 (.loop kB2)).wp Tryd.prog Q a1 w1
    refine wp_block ?_
    refine wp_loop_ghost (fun n a w => ∃ i g N x F, n = ts.length - i ∧ i ≤ ts.length ∧ Fro x0 X0 xs hv ts i x F w ∧ Sat x (lpS ts hv p i g N) F a w ∧ g < N) ts.length ⟨0, N, N + 1, _, F2, by omega, by omega, h3, hs3, by omega⟩ ?_
    clear hs3 h3 r2
    rintro n a w ⟨i, g, N, x, F, rfl, hi, h, hs, hg⟩
    rw [kB2_eq]
    refine wp_seq ?_
    refine piece (G := GK J N) h.root hs (GK_ok J N) (h.root.j.trans hj) rfl hm (by rw [h.root.n, hn]; kernel_rfl) (K := ⟨fun s' => Sub s' (lpS ts hv p i g N) ∧ i < ts.length, fun _ => False, [(4, fun s' => Sub s' (lpS ts hv p i g N) ∧ i = ts.length)]⟩) ?_ (fun x1 r1 hj1 hn1 hw hX hC hF => ⟨fun s' F1 a1 w1 hsub hs1 => ?_, fun _ _ _ _ h => h.elim, fun id k hid s' F1 a1 w1 hsub hs1 => ?_⟩)
    · simp only [kB2, k2, kB, cL, cR, Tryd.f48, Option.getD_some]
      simp only [vquietR, vopsR, RetC, retW, cellR, undV, vgA, vbinN, vnn, isNilC, isIf, vconvH, vconvO, cvOk, frz1, frzE, jsOk, jsCo, rowsH, vgcH, vgH, vopsT, stepE, Kseq_app, vg_skip, vg_label, vg_seq, vg_region, vg_cond, vg_block, vg_exit, vg_ret, vg_loop, vcallF, vcallH, uls, HdelK, memN, noBox, ninL, keysH, jsAt, AdSub, adopt, noEl, isNil, effL, effO, vopsD, vquiet, vfstD, ldq, ldOk, vops, vfst, vone, vact, ug, addL, vbox, valloc, vstore, vbuild, vbuildSlice, vappend, vmake, zeroS, zeroE, vstrB, apC, nrm, nr1, nrL, keyL, neqs, diffs, V.app, V.len, vsrc, vdst, mkSl, mkBy, inOrd, placeAll, V.one, V.sto, V.csize, V.parts, V.cellsL, setMany, V.setB, V.setE, V.setO, V.noOwn, V.isOwn, vq, vcall, fzA, fz, fz1, fzL, fzN, rts, rt1, V.er, er1, er2, mixA, mixK, uargs, u1, R.add, vop, vbin, vint2, vstr2, vbool2, vnum, vun, vpick, vpick1, vbool, vconv, vnil, vfieldAddr, vindexAddr, vindex, vload, vfield, aggD, vslice, bnd, uopt, vlen, vmin, vextract, Hpk, Hroot, refV, ownR, V.i, V.elems, V.cell, V.cut, V.exact, V.ex0, exL, V.cl, clL, V.sc, scL, scO, scH, V.ct, ct1, ct2, RetP, RetK, RetH, retL, retOne, Back, Veq, subH, obs, obsIf, En.get, En.put, En.ev, enOf, gcond, wantB, constV, exGet, subE, Sub, RV, RVL, NR, RO, subER, subHR, newLt, oldNe, oldOk, oldGe, notIn, ivN, lookN, SubR, Nm.root, Nat.reduceMul, Nat.reduceLeDiff, Nat.reduceEqDiff, Nat.reduceLT, Nat.reduceAdd, Nat.reduceSub, ↓reduceIte, implies_true, reduceCtorEq, ne_eq, ↓shr_eq, IntKind.bits, Int.reduceToNat, Int.reducePow, dite_eq_ite, Value.oneCell', Nat.reduceBEq, Nat.reduceDiv, sd, nm, ty, tlsV, tlvD, tloV, tlvOD, tb, GK, GKf, lst_len]
      refine ⟨fun h => ⟨Nat.le_refl _, ?_⟩, fun h => ⟨Nat.le_refl _, ?_⟩⟩
      · simp only [decide_eq_true_eq] at h; omega
      · simp only [decide_eq_false_iff_not] at h; omega
    · obtain ⟨hsub, hi2⟩ := hsub
      obtain ⟨h1, _⟩ := h.step hs r1 hw hX hC hF hs1
      have hs1 := hs1.sub hsub
      clear h hs hsub r1 hX hC hF hw
      show (Code.seq (.block 5 kI5) (cR (cR kB2))).wp Tryd.prog _ a1 w1
      refine wp_seq (wp_block ?_)
      rw [kI5_eq]
      refine wp_seq ?_
      refine piece (G := GK J N) h1.root hs1 (GK_ok J N) (h1.root.j.trans hj) rfl hm (by rw [h1.root.n, hn]; kernel_rfl) (K := ⟨fun s' => Sub s' ⟨[(9, .val (hv i)), (1, .val (.int .i64 p)), (8, .i i), (0, hdV ts hv), (7, .ro (.r g))], [(g, .row 25 (.sq 1 (.by []) (grL ts p i)))], N⟩, fun _ => False, []⟩) ?_ (fun x2 r1 hj1 hn1 hw hX hC hF => ⟨fun s' F2 a2 w2 hsub hs2 => ?_, fun _ _ _ _ h => h.elim, fun _ _ h => by simp [exGet] at h⟩)
      · simp only [kI5, kB2, k2, kB, cL, cR, Tryd.f48, Option.getD_some]
        simp only [vquietR, vopsR, RetC, retW, cellR, undV, vgA, vbinN, vnn, isNilC, isIf, vconvH, vconvO, cvOk, frz1, frzE, jsOk, jsCo, rowsH, vgcH, vgH, vopsT, stepE, Kseq_app, vg_skip, vg_label, vg_seq, vg_region, vg_cond, vg_block, vg_exit, vg_ret, vg_loop, vcallF, vcallH, uls, HdelK, memN, noBox, ninL, keysH, jsAt, AdSub, adopt, noEl, isNil, effL, effO, vopsD, vquiet, vfstD, ldq, ldOk, vops, vfst, vone, vact, ug, addL, vbox, valloc, vstore, vbuild, vbuildSlice, vappend, vmake, zeroS, zeroE, vstrB, apC, nrm, nr1, nrL, keyL, neqs, diffs, V.app, V.len, vsrc, vdst, mkSl, mkBy, inOrd, placeAll, V.one, V.sto, V.csize, V.parts, V.cellsL, setMany, V.setB, V.setE, V.setO, V.noOwn, V.isOwn, vq, vcall, fzA, fz, fz1, fzL, fzN, rts, rt1, V.er, er1, er2, mixA, mixK, uargs, u1, R.add, vop, vbin, vint2, vstr2, vbool2, vnum, vun, vpick, vpick1, vbool, vconv, vnil, vfieldAddr, vindexAddr, vindex, vload, vfield, aggD, vslice, bnd, uopt, vlen, vmin, vextract, Hpk, Hroot, refV, ownR, V.i, V.elems, V.cell, V.cut, V.exact, V.ex0, exL, V.cl, clL, V.sc, scL, scO, scH, V.ct, ct1, ct2, RetP, RetK, RetH, retL, retOne, Back, Veq, subH, obs, obsIf, En.get, En.put, En.ev, enOf, gcond, wantB, constV, exGet, subE, Sub, RV, RVL, NR, RO, subER, subHR, newLt, oldNe, oldOk, oldGe, notIn, ivN, lookN, SubR, Nm.root, Nat.reduceMul, Nat.reduceLeDiff, Nat.reduceEqDiff, Nat.reduceLT, Nat.reduceAdd, Nat.reduceSub, ↓reduceIte, implies_true, reduceCtorEq, ne_eq, ↓shr_eq, IntKind.bits, Int.reduceToNat, Int.reducePow, dite_eq_ite, Value.oneCell', Nat.reduceBEq, Nat.reduceDiv, sd, nm, ty, tlsV, tlvD, tloV, tlvOD, tb, GK, GKf, lst_len, lst_get ts _ _ hi2]
        refine ⟨by omega, by omega, Nat.le_refl _⟩
      · obtain ⟨h2, _⟩ := h1.step hs1 r1 hw hX hC hF hs2
        have hs2 := hs2.sub hsub
        clear h1 hs1 hsub r1 hX hC hF hw
        show (Code.seq kI (cR (cR kI5))).wp Tryd.prog _ a2 w2
        refine wp_seq ?_
        refine keeps_grow J hj hn hb h2 hs2 hg hi2 (by omega) (h2.lim.kid i hi2) (h2.f2 i (Nat.le_refl _) hi2) (fun b hb => .inl hb) (Nat.le_refl _) (hd i hi2) fun x3 F3 a3 w3 y N3 h3 hs3 hg3 hk hyF hyB => ?_
        clear h2 hs2
        obtain ⟨x4, F4, hs4, h4⟩ := h3.read (t := 9) hb hs3 hi2 hk hyF hyB rfl
        clear h3 hs3
        show (cR (cR kI5)).wp Tryd.prog _ a3 w3
        refine piece (G := GK J N3) h4.root hs4 (GK_ok J N3) (h4.root.j.trans hj) rfl hm (by rw [h4.root.n, hn]; kernel_rfl) (K := ⟨fun s' => Sub s' ⟨[(8, .i i), (0, hdV ts hv), (1, .val (.int .i64 p)), (7, .ro (.r (N3 + 1)))], [(N3 + 1, .row 25 (.sq 1 (.by []) (grL ts p (i + 1))))], N3 + 2⟩, fun _ => False, []⟩) ?_ (fun x5 r1 hj1 hn1 hw hX hC hF => ⟨fun s' F5 a5 w5 hsub hs5 => ?_, fun _ _ _ _ h => h.elim, fun _ _ h => by simp [exGet] at h⟩)
        · have n1 : (N3 = g) = False := by simp; omega
          have n2 : (g = N3) = False := by simp; omega
          have n3 : ∀ j, (N3 + j = g) = False := fun j => by simp; omega
          have n4 : ∀ j, (g = N3 + j) = False := fun j => by simp; omega
          simp only [kI5, kB2, k2, kB, cL, cR, Tryd.f48, Option.getD_some]
          simp only [vquietR, vopsR, RetC, retW, cellR, undV, vgA, vbinN, vnn, isNilC, isIf, vconvH, vconvO, cvOk, frz1, frzE, jsOk, jsCo, rowsH, vgcH, vgH, vopsT, stepE, Kseq_app, vg_skip, vg_label, vg_seq, vg_region, vg_cond, vg_block, vg_exit, vg_ret, vg_loop, vcallF, vcallH, uls, HdelK, memN, noBox, ninL, keysH, jsAt, AdSub, adopt, noEl, isNil, effL, effO, vopsD, vquiet, vfstD, ldq, ldOk, vops, vfst, vone, vact, ug, addL, vbox, valloc, vstore, vbuild, vbuildSlice, vappend, vmake, zeroS, zeroE, vstrB, apC, nrm, nr1, nrL, keyL, neqs, diffs, V.app, V.len, vsrc, vdst, mkSl, mkBy, inOrd, placeAll, V.one, V.sto, V.csize, V.parts, V.cellsL, setMany, V.setB, V.setE, V.setO, V.noOwn, V.isOwn, vq, vcall, fzA, fz, fz1, fzL, fzN, rts, rt1, V.er, er1, er2, mixA, mixK, uargs, u1, R.add, vop, vbin, vint2, vstr2, vbool2, vnum, vun, vpick, vpick1, vbool, vconv, vnil, vfieldAddr, vindexAddr, vindex, vload, vfield, aggD, vslice, bnd, uopt, vlen, vmin, vextract, Hpk, Hroot, refV, ownR, V.i, V.elems, V.cell, V.cut, V.exact, V.ex0, exL, V.cl, clL, V.sc, scL, scO, scH, V.ct, ct1, ct2, RetP, RetK, RetH, retL, retOne, Back, Veq, subH, obs, obsIf, En.get, En.put, En.ev, enOf, gcond, wantB, constV, exGet, subE, Sub, RV, RVL, NR, RO, subER, subHR, newLt, oldNe, oldOk, oldGe, notIn, ivN, lookN, SubR, Nm.root, Nat.reduceMul, Nat.reduceLeDiff, Nat.reduceEqDiff, Nat.reduceLT, Nat.reduceAdd, Nat.reduceSub, ↓reduceIte, implies_true, reduceCtorEq, ne_eq, ↓shr_eq, IntKind.bits, Int.reduceToNat, Int.reducePow, dite_eq_ite, Value.oneCell', Nat.reduceBEq, Nat.reduceDiv, sd, nm, ty, tlsV, tlvD, tloV, tlvOD, tb, GK, GKf, dfB, grS, n1, n2, n3, n4]
          refine ⟨by simp only [List.length_append, grL_len, List.length_cons, List.length_nil]; omega, grL_succ ts p i, Nat.le_refl _⟩
        · obtain ⟨h5, _⟩ := h4.step hs4 r1 hw hX hC hF hs5
          have hs5 := hs5.sub hsub
          clear h4 hs4 hsub r1 hX hC hF hw
          show (cR (cR kB2)).wp Tryd.prog _ a5 w5
          refine piece (G := GK J (N3 + 2)) h5.root hs5 (GK_ok J (N3 + 2)) (h5.root.j.trans hj) rfl hm (by rw [h5.root.n, hn]; kernel_rfl) (K := ⟨fun s' => Sub s' (lpS ts hv p (i + 1) (N3 + 1) (N3 + 2)), fun _ => False, []⟩) ?_ (fun x6 r1 hj1 hn1 hw hX hC hF => ⟨fun s' F6 a6 w6 hsub hs6 => ?_, fun _ _ _ _ h => h.elim, fun _ _ h => by simp [exGet] at h⟩)
          · simp only [kB2, k2, kB, cL, cR, Tryd.f48, Option.getD_some]
            simp only [vquietR, vopsR, RetC, retW, cellR, undV, vgA, vbinN, vnn, isNilC, isIf, vconvH, vconvO, cvOk, frz1, frzE, jsOk, jsCo, rowsH, vgcH, vgH, vopsT, stepE, Kseq_app, vg_skip, vg_label, vg_seq, vg_region, vg_cond, vg_block, vg_exit, vg_ret, vg_loop, vcallF, vcallH, uls, HdelK, memN, noBox, ninL, keysH, jsAt, AdSub, adopt, noEl, isNil, effL, effO, vopsD, vquiet, vfstD, ldq, ldOk, vops, vfst, vone, vact, ug, addL, vbox, valloc, vstore, vbuild, vbuildSlice, vappend, vmake, zeroS, zeroE, vstrB, apC, nrm, nr1, nrL, keyL, neqs, diffs, V.app, V.len, vsrc, vdst, mkSl, mkBy, inOrd, placeAll, V.one, V.sto, V.csize, V.parts, V.cellsL, setMany, V.setB, V.setE, V.setO, V.noOwn, V.isOwn, vq, vcall, fzA, fz, fz1, fzL, fzN, rts, rt1, V.er, er1, er2, mixA, mixK, uargs, u1, R.add, vop, vbin, vint2, vstr2, vbool2, vnum, vun, vpick, vpick1, vbool, vconv, vnil, vfieldAddr, vindexAddr, vindex, vload, vfield, aggD, vslice, bnd, uopt, vlen, vmin, vextract, Hpk, Hroot, refV, ownR, V.i, V.elems, V.cell, V.cut, V.exact, V.ex0, exL, V.cl, clL, V.sc, scL, scO, scH, V.ct, ct1, ct2, RetP, RetK, RetH, retL, retOne, Back, Veq, subH, obs, obsIf, En.get, En.put, En.ev, enOf, gcond, wantB, constV, exGet, subE, Sub, RV, RVL, NR, RO, subER, subHR, newLt, oldNe, oldOk, oldGe, notIn, ivN, lookN, SubR, Nm.root, Nat.reduceMul, Nat.reduceLeDiff, Nat.reduceEqDiff, Nat.reduceLT, Nat.reduceAdd, Nat.reduceSub, ↓reduceIte, implies_true, reduceCtorEq, ne_eq, ↓shr_eq, IntKind.bits, Int.reduceToNat, Int.reducePow, dite_eq_ite, Value.oneCell', Nat.reduceBEq, Nat.reduceDiv, sd, nm, ty, tlsV, tlvD, tloV, tlvOD, tb, GK, GKf]
            refine ⟨by constructor <;> omega, by omega, Nat.le_refl _⟩
          · obtain ⟨h6, _⟩ := h5.step hs5 r1 hw hX hC hF hs6
            exact ⟨ts.length - (i + 1), by omega, i + 1, N3 + 1, N3 + 2, x6, F6, rfl, by omega, h6, hs6.sub hsub, by omega⟩
    · simp only [exGet] at hid
      split at hid
      · rename_i e; subst e
        obtain rfl := Option.some.inj hid
        obtain ⟨hsub, rfl⟩ := hsub
        obtain ⟨h1, _⟩ := h.step hs r1 hw hX hC hF hs1
        exact hQ x1 F1 a1 w1 g N h1 (hs1.sub hsub) hg
      · cases hid
theorem byteAt_rep {n : Nat} {m : Int} (h0 : 0 ≤ m) (h1 : m < 256) (l r : List UInt8) {q : Nat} (hq : l.length ≤ q) (hq2 : q < l.length + n) : byteAt (l ++ (List.replicate n (u8 m) ++ r)) q = m := by
  unfold byteAt
  rw [List.getD_eq_getElem?_getD, List.getElem?_append_right hq, List.getElem?_append_left (by rw [List.length_replicate]; omega), List.getElem?_replicate, if_pos (by omega)]
  exact u8_toNat _ h0 h1
/-- The last part: all is read. -/
theorem keeps_l3 (J : Inv) {p : Int} {g N : Nat} (hl : ts.length ≤ 16777216) (hd : ∀ i, i < ts.length → (ts.getD i default).data = List.replicate (ts.getD i default).data.length (u8 (markI i p)) ∧ (ts.getD i default).data.length ≤ 16777216) :
    vg Tryd.prog (GK J N) (cR (cR (cR (cR kB)))) ⟨[(0, tlsV ts), (1, .val (.int .i64 p)), (7, .ro (.r g))], [(g, .row 25 (.sq 1 (.by []) (grL ts p ts.length)))], N⟩
      ⟨fun _ => False, fun s => s.e.get 4 = some (.bb true), []⟩ := by
  simp only [kB, cL, cR, Tryd.f48, Option.getD_some]
  simp only [vquietR, vopsR, RetC, retW, cellR, undV, vgA, vbinN, vnn, isNilC, isIf, vconvH, vconvO, cvOk, frz1, frzE, jsOk, jsCo, rowsH, vgcH, vgH, vopsT, stepE, Kseq_app, vg_skip, vg_label, vg_seq, vg_region, vg_cond, vg_block, vg_exit, vg_ret, vg_loop, vcallF, vcallH, uls, HdelK, memN, noBox, ninL, keysH, jsAt, AdSub, adopt, noEl, isNil, effL, effO, vopsD, vquiet, vfstD, ldq, ldOk, vops, vfst, vone, vact, ug, addL, vbox, valloc, vstore, vbuild, vbuildSlice, vappend, vmake, zeroS, zeroE, vstrB, apC, nrm, nr1, nrL, keyL, neqs, diffs, V.app, V.len, vsrc, vdst, mkSl, mkBy, inOrd, placeAll, V.one, V.sto, V.csize, V.parts, V.cellsL, setMany, V.setB, V.setE, V.setO, V.noOwn, V.isOwn, vq, vcall, fzA, fz, fz1, fzL, fzN, rts, rt1, V.er, er1, er2, mixA, mixK, uargs, u1, R.add, vop, vbin, vint2, vstr2, vbool2, vnum, vun, vpick, vpick1, vbool, vconv, vnil, vfieldAddr, vindexAddr, vindex, vload, vfield, aggD, vslice, bnd, uopt, vlen, vmin, vextract, Hpk, Hroot, refV, ownR, V.i, V.elems, V.cell, V.cut, V.exact, V.ex0, exL, V.cl, clL, V.sc, scL, scO, scH, V.ct, ct1, ct2, RetP, RetK, RetH, retL, retOne, Back, Veq, subH, obs, obsIf, En.get, En.put, En.ev, enOf, gcond, wantB, constV, exGet, subE, Sub, RV, RVL, NR, RO, subER, subHR, newLt, oldNe, oldOk, oldGe, notIn, ivN, lookN, SubR, Nm.root, Nat.reduceMul, Nat.reduceLeDiff, Nat.reduceEqDiff, Nat.reduceLT, Nat.reduceAdd, Nat.reduceSub, ↓reduceIte, implies_true, reduceCtorEq, ne_eq, ↓shr_eq, IntKind.bits, Int.reduceToNat, Int.reducePow, dite_eq_ite, Value.oneCell', Nat.reduceBEq, Nat.reduceDiv, sd, nm, ty, tlsV, tlvD, tloV, tlvOD, tb, GK, GKf]
  generalize hK : Kseq _ _ _ _ = K2
  refine LoopC.intro (α := Nat) (fun i => i ≤ ts.length)
    (fun i => ⟨[(11, .i i), (0, tlsV ts), (1, .val (.int .i64 p)), (7, .ro (.r g))], [(g, .row 25 (.sq 1 (.by []) (grL ts p ts.length)))], N⟩) (fun i => ts.length - i) 0 (Nat.zero_le _) ?_ ?_
  · simp only [vquietR, vopsR, RetC, retW, cellR, undV, vgA, vbinN, vnn, isNilC, isIf, vconvH, vconvO, cvOk, frz1, frzE, jsOk, jsCo, rowsH, vgcH, vgH, vopsT, stepE, Kseq_app, vg_skip, vg_label, vg_seq, vg_region, vg_cond, vg_block, vg_exit, vg_ret, vg_loop, vcallF, vcallH, uls, HdelK, memN, noBox, ninL, keysH, jsAt, AdSub, adopt, noEl, isNil, effL, effO, vopsD, vquiet, vfstD, ldq, ldOk, vops, vfst, vone, vact, ug, addL, vbox, valloc, vstore, vbuild, vbuildSlice, vappend, vmake, zeroS, zeroE, vstrB, apC, nrm, nr1, nrL, keyL, neqs, diffs, V.app, V.len, vsrc, vdst, mkSl, mkBy, inOrd, placeAll, V.one, V.sto, V.csize, V.parts, V.cellsL, setMany, V.setB, V.setE, V.setO, V.noOwn, V.isOwn, vq, vcall, fzA, fz, fz1, fzL, fzN, rts, rt1, V.er, er1, er2, mixA, mixK, uargs, u1, R.add, vop, vbin, vint2, vstr2, vbool2, vnum, vun, vpick, vpick1, vbool, vconv, vnil, vfieldAddr, vindexAddr, vindex, vload, vfield, aggD, vslice, bnd, uopt, vlen, vmin, vextract, Hpk, Hroot, refV, ownR, V.i, V.elems, V.cell, V.cut, V.exact, V.ex0, exL, V.cl, clL, V.sc, scL, scO, scH, V.ct, ct1, ct2, RetP, RetK, RetH, retL, retOne, Back, Veq, subH, obs, obsIf, En.get, En.put, En.ev, enOf, gcond, wantB, constV, exGet, subE, Sub, RV, RVL, NR, RO, subER, subHR, newLt, oldNe, oldOk, oldGe, notIn, ivN, lookN, SubR, Nm.root, Nat.reduceMul, Nat.reduceLeDiff, Nat.reduceEqDiff, Nat.reduceLT, Nat.reduceAdd, Nat.reduceSub, ↓reduceIte, implies_true, reduceCtorEq, ne_eq, ↓shr_eq, IntKind.bits, Int.reduceToNat, Int.reducePow, dite_eq_ite, Value.oneCell', Nat.reduceBEq, Nat.reduceDiv, sd, nm, ty, tlsV, tlvD, tloV, tlvOD, tb]
    exact ⟨rfl, Nat.le_refl _⟩
  · intro i hi
    simp only [vquietR, vopsR, RetC, retW, cellR, undV, vgA, vbinN, vnn, isNilC, isIf, vconvH, vconvO, cvOk, frz1, frzE, jsOk, jsCo, rowsH, vgcH, vgH, vopsT, stepE, Kseq_app, vg_skip, vg_label, vg_seq, vg_region, vg_cond, vg_block, vg_exit, vg_ret, vg_loop, vcallF, vcallH, uls, HdelK, memN, noBox, ninL, keysH, jsAt, AdSub, adopt, noEl, isNil, effL, effO, vopsD, vquiet, vfstD, ldq, ldOk, vops, vfst, vone, vact, ug, addL, vbox, valloc, vstore, vbuild, vbuildSlice, vappend, vmake, zeroS, zeroE, vstrB, apC, nrm, nr1, nrL, keyL, neqs, diffs, V.app, V.len, vsrc, vdst, mkSl, mkBy, inOrd, placeAll, V.one, V.sto, V.csize, V.parts, V.cellsL, setMany, V.setB, V.setE, V.setO, V.noOwn, V.isOwn, vq, vcall, fzA, fz, fz1, fzL, fzN, rts, rt1, V.er, er1, er2, mixA, mixK, uargs, u1, R.add, vop, vbin, vint2, vstr2, vbool2, vnum, vun, vpick, vpick1, vbool, vconv, vnil, vfieldAddr, vindexAddr, vindex, vload, vfield, aggD, vslice, bnd, uopt, vlen, vmin, vextract, Hpk, Hroot, refV, ownR, V.i, V.elems, V.cell, V.cut, V.exact, V.ex0, exL, V.cl, clL, V.sc, scL, scO, scH, V.ct, ct1, ct2, RetP, RetK, RetH, retL, retOne, Back, Veq, subH, obs, obsIf, En.get, En.put, En.ev, enOf, gcond, wantB, constV, exGet, subE, Sub, RV, RVL, NR, RO, subER, subHR, newLt, oldNe, oldOk, oldGe, notIn, ivN, lookN, SubR, Nm.root, Nat.reduceMul, Nat.reduceLeDiff, Nat.reduceEqDiff, Nat.reduceLT, Nat.reduceAdd, Nat.reduceSub, ↓reduceIte, implies_true, reduceCtorEq, ne_eq, ↓shr_eq, IntKind.bits, Int.reduceToNat, Int.reducePow, dite_eq_ite, Value.oneCell', Nat.reduceBEq, Nat.reduceDiv, sd, nm, ty, tlsV, tlvD, tloV, tlvOD, tb, GK, GKf]
    refine ⟨fun hi2 => ?_, fun hi2 => ?_⟩
    · simp only [decide_eq_true_eq] at hi2
      have hi2 : i < ts.length := by omega
      obtain ⟨hd1, hd2⟩ := hd i hi2
      generalize hK3 : Kseq _ _ _ _ = K3
      refine LoopC.intro (α := Nat) (fun q => q ≤ (ts.getD i default).data.length)
        (fun q => ⟨[(12, .i q), (11, .i i), (0, tlsV ts), (1, .val (.int .i64 p)), (7, .ro (.r g))], [(g, .row 25 (.sq 1 (.by []) (grL ts p ts.length)))], N⟩) (fun q => (ts.getD i default).data.length - q) 0 (Nat.zero_le _) ?_ ?_
      · simp only [vquietR, vopsR, RetC, retW, cellR, undV, vgA, vbinN, vnn, isNilC, isIf, vconvH, vconvO, cvOk, frz1, frzE, jsOk, jsCo, rowsH, vgcH, vgH, vopsT, stepE, Kseq_app, vg_skip, vg_label, vg_seq, vg_region, vg_cond, vg_block, vg_exit, vg_ret, vg_loop, vcallF, vcallH, uls, HdelK, memN, noBox, ninL, keysH, jsAt, AdSub, adopt, noEl, isNil, effL, effO, vopsD, vquiet, vfstD, ldq, ldOk, vops, vfst, vone, vact, ug, addL, vbox, valloc, vstore, vbuild, vbuildSlice, vappend, vmake, zeroS, zeroE, vstrB, apC, nrm, nr1, nrL, keyL, neqs, diffs, V.app, V.len, vsrc, vdst, mkSl, mkBy, inOrd, placeAll, V.one, V.sto, V.csize, V.parts, V.cellsL, setMany, V.setB, V.setE, V.setO, V.noOwn, V.isOwn, vq, vcall, fzA, fz, fz1, fzL, fzN, rts, rt1, V.er, er1, er2, mixA, mixK, uargs, u1, R.add, vop, vbin, vint2, vstr2, vbool2, vnum, vun, vpick, vpick1, vbool, vconv, vnil, vfieldAddr, vindexAddr, vindex, vload, vfield, aggD, vslice, bnd, uopt, vlen, vmin, vextract, Hpk, Hroot, refV, ownR, V.i, V.elems, V.cell, V.cut, V.exact, V.ex0, exL, V.cl, clL, V.sc, scL, scO, scH, V.ct, ct1, ct2, RetP, RetK, RetH, retL, retOne, Back, Veq, subH, obs, obsIf, En.get, En.put, En.ev, enOf, gcond, wantB, constV, exGet, subE, Sub, RV, RVL, NR, RO, subER, subHR, newLt, oldNe, oldOk, oldGe, notIn, ivN, lookN, SubR, Nm.root, Nat.reduceMul, Nat.reduceLeDiff, Nat.reduceEqDiff, Nat.reduceLT, Nat.reduceAdd, Nat.reduceSub, ↓reduceIte, implies_true, reduceCtorEq, ne_eq, ↓shr_eq, IntKind.bits, Int.reduceToNat, Int.reducePow, dite_eq_ite, Value.oneCell', Nat.reduceBEq, Nat.reduceDiv, sd, nm, ty, tlsV, tlvD, tloV, tlvOD, tb]
        exact ⟨rfl, Nat.le_refl _⟩
      · intro q hq
        simp only [vquietR, vopsR, RetC, retW, cellR, undV, vgA, vbinN, vnn, isNilC, isIf, vconvH, vconvO, cvOk, frz1, frzE, jsOk, jsCo, rowsH, vgcH, vgH, vopsT, stepE, Kseq_app, vg_skip, vg_label, vg_seq, vg_region, vg_cond, vg_block, vg_exit, vg_ret, vg_loop, vcallF, vcallH, uls, HdelK, memN, noBox, ninL, keysH, jsAt, AdSub, adopt, noEl, isNil, effL, effO, vopsD, vquiet, vfstD, ldq, ldOk, vops, vfst, vone, vact, ug, addL, vbox, valloc, vstore, vbuild, vbuildSlice, vappend, vmake, zeroS, zeroE, vstrB, apC, nrm, nr1, nrL, keyL, neqs, diffs, V.app, V.len, vsrc, vdst, mkSl, mkBy, inOrd, placeAll, V.one, V.sto, V.csize, V.parts, V.cellsL, setMany, V.setB, V.setE, V.setO, V.noOwn, V.isOwn, vq, vcall, fzA, fz, fz1, fzL, fzN, rts, rt1, V.er, er1, er2, mixA, mixK, uargs, u1, R.add, vop, vbin, vint2, vstr2, vbool2, vnum, vun, vpick, vpick1, vbool, vconv, vnil, vfieldAddr, vindexAddr, vindex, vload, vfield, aggD, vslice, bnd, uopt, vlen, vmin, vextract, Hpk, Hroot, refV, ownR, V.i, V.elems, V.cell, V.cut, V.exact, V.ex0, exL, V.cl, clL, V.sc, scL, scO, scH, V.ct, ct1, ct2, RetP, RetK, RetH, retL, retOne, Back, Veq, subH, obs, obsIf, En.get, En.put, En.ev, enOf, gcond, wantB, constV, exGet, subE, Sub, RV, RVL, NR, RO, subER, subHR, newLt, oldNe, oldOk, oldGe, notIn, ivN, lookN, SubR, Nm.root, Nat.reduceMul, Nat.reduceLeDiff, Nat.reduceEqDiff, Nat.reduceLT, Nat.reduceAdd, Nat.reduceSub, ↓reduceIte, implies_true, reduceCtorEq, ne_eq, ↓shr_eq, IntKind.bits, Int.reduceToNat, Int.reducePow, dite_eq_ite, Value.oneCell', Nat.reduceBEq, Nat.reduceDiv, sd, nm, ty, tlsV, tlvD, tloV, tlvOD, tb, GK, GKf]
        refine ⟨by omega, by omega, fun hq2 => ?_, fun hq2 => ?_⟩
        · simp only [decide_eq_true_eq] at hq2
          have hq2 : q < (ts.getD i default).data.length := by omega
          refine DrawC.sch [(0, some []), (1, some []), (2, some []), (3, some []), (4, some []), (5, some []), (6, some []), (7, some []),
  (8, some []), (9, some []), (10, none), (11, some [])] [] (by kernel_rfl) ?_
          simp only [vquietR, vopsR, RetC, retW, cellR, undV, vgA, vbinN, vnn, isNilC, isIf, vconvH, vconvO, cvOk, frz1, frzE, jsOk, jsCo, rowsH, vgcH, vgH, vopsT, stepE, Kseq_app, vg_skip, vg_label, vg_seq, vg_region, vg_cond, vg_block, vg_exit, vg_ret, vg_loop, vcallF, vcallH, uls, HdelK, memN, noBox, ninL, keysH, jsAt, AdSub, adopt, noEl, isNil, effL, effO, vopsD, vquiet, vfstD, ldq, ldOk, vops, vfst, vone, vact, ug, addL, vbox, valloc, vstore, vbuild, vbuildSlice, vappend, vmake, zeroS, zeroE, vstrB, apC, nrm, nr1, nrL, keyL, neqs, diffs, V.app, V.len, vsrc, vdst, mkSl, mkBy, inOrd, placeAll, V.one, V.sto, V.csize, V.parts, V.cellsL, setMany, V.setB, V.setE, V.setO, V.noOwn, V.isOwn, vq, vcall, fzA, fz, fz1, fzL, fzN, rts, rt1, V.er, er1, er2, mixA, mixK, uargs, u1, R.add, vop, vbin, vint2, vstr2, vbool2, vnum, vun, vpick, vpick1, vbool, vconv, vnil, vfieldAddr, vindexAddr, vindex, vload, vfield, aggD, vslice, bnd, uopt, vlen, vmin, vextract, Hpk, Hroot, refV, ownR, V.i, V.elems, V.cell, V.cut, V.exact, V.ex0, exL, V.cl, clL, V.sc, scL, scO, scH, V.ct, ct1, ct2, RetP, RetK, RetH, retL, retOne, Back, Veq, subH, obs, obsIf, En.get, En.put, En.ev, enOf, gcond, wantB, constV, exGet, subE, Sub, RV, RVL, NR, RO, subER, subHR, newLt, oldNe, oldOk, oldGe, notIn, ivN, lookN, SubR, Nm.root, Nat.reduceMul, Nat.reduceLeDiff, Nat.reduceEqDiff, Nat.reduceLT, Nat.reduceAdd, Nat.reduceSub, ↓reduceIte, implies_true, reduceCtorEq, ne_eq, ↓shr_eq, IntKind.bits, Int.reduceToNat, Int.reducePow, dite_eq_ite, Value.oneCell', Nat.reduceBEq, Nat.reduceDiv, sd, nm, ty, tlsV, tlvD, tloV, tlvOD, tb, GK, GKf]
          have hm := markI_u8 i p
          have hb : byteAt (ts.getD i default).data q = markI i p := by
            have := byteAt_rep hm.1 hm.2 (n := (ts.getD i default).data.length) [] [] (q := q) (Nat.zero_le _) (by rw [List.length_nil]; omega)
            simp only [List.nil_append, List.append_nil] at this
            rw [hd1]; exact this
          simp only [hb, Int.toNat_natCast]
          refine ⟨by omega, by omega, by omega, by omega, by omega, by omega, fun h => by simp at h, fun _ => ⟨by constructor <;> omega, Again.intro (q + 1) (by omega) (by omega) ?_⟩⟩
          simp only [vquietR, vopsR, RetC, retW, cellR, undV, vgA, vbinN, vnn, isNilC, isIf, vconvH, vconvO, cvOk, frz1, frzE, jsOk, jsCo, rowsH, vgcH, vgH, vopsT, stepE, Kseq_app, vg_skip, vg_label, vg_seq, vg_region, vg_cond, vg_block, vg_exit, vg_ret, vg_loop, vcallF, vcallH, uls, HdelK, memN, noBox, ninL, keysH, jsAt, AdSub, adopt, noEl, isNil, effL, effO, vopsD, vquiet, vfstD, ldq, ldOk, vops, vfst, vone, vact, ug, addL, vbox, valloc, vstore, vbuild, vbuildSlice, vappend, vmake, zeroS, zeroE, vstrB, apC, nrm, nr1, nrL, keyL, neqs, diffs, V.app, V.len, vsrc, vdst, mkSl, mkBy, inOrd, placeAll, V.one, V.sto, V.csize, V.parts, V.cellsL, setMany, V.setB, V.setE, V.setO, V.noOwn, V.isOwn, vq, vcall, fzA, fz, fz1, fzL, fzN, rts, rt1, V.er, er1, er2, mixA, mixK, uargs, u1, R.add, vop, vbin, vint2, vstr2, vbool2, vnum, vun, vpick, vpick1, vbool, vconv, vnil, vfieldAddr, vindexAddr, vindex, vload, vfield, aggD, vslice, bnd, uopt, vlen, vmin, vextract, Hpk, Hroot, refV, ownR, V.i, V.elems, V.cell, V.cut, V.exact, V.ex0, exL, V.cl, clL, V.sc, scL, scO, scH, V.ct, ct1, ct2, RetP, RetK, RetH, retL, retOne, Back, Veq, subH, obs, obsIf, En.get, En.put, En.ev, enOf, gcond, wantB, constV, exGet, subE, Sub, RV, RVL, NR, RO, subER, subHR, newLt, oldNe, oldOk, oldGe, notIn, ivN, lookN, SubR, Nm.root, Nat.reduceMul, Nat.reduceLeDiff, Nat.reduceEqDiff, Nat.reduceLT, Nat.reduceAdd, Nat.reduceSub, ↓reduceIte, implies_true, reduceCtorEq, ne_eq, ↓shr_eq, IntKind.bits, Int.reduceToNat, Int.reducePow, dite_eq_ite, Value.oneCell', Nat.reduceBEq, Nat.reduceDiv, sd, nm, ty, tlsV, tlvD, tloV, tlvOD, tb]
          refine ⟨by omega, Nat.le_refl _⟩
        · rw [← hK3]
          simp only [vquietR, vopsR, RetC, retW, cellR, undV, vgA, vbinN, vnn, isNilC, isIf, vconvH, vconvO, cvOk, frz1, frzE, jsOk, jsCo, rowsH, vgcH, vgH, vopsT, stepE, Kseq_app, vg_skip, vg_label, vg_seq, vg_region, vg_cond, vg_block, vg_exit, vg_ret, vg_loop, vcallF, vcallH, uls, HdelK, memN, noBox, ninL, keysH, jsAt, AdSub, adopt, noEl, isNil, effL, effO, vopsD, vquiet, vfstD, ldq, ldOk, vops, vfst, vone, vact, ug, addL, vbox, valloc, vstore, vbuild, vbuildSlice, vappend, vmake, zeroS, zeroE, vstrB, apC, nrm, nr1, nrL, keyL, neqs, diffs, V.app, V.len, vsrc, vdst, mkSl, mkBy, inOrd, placeAll, V.one, V.sto, V.csize, V.parts, V.cellsL, setMany, V.setB, V.setE, V.setO, V.noOwn, V.isOwn, vq, vcall, fzA, fz, fz1, fzL, fzN, rts, rt1, V.er, er1, er2, mixA, mixK, uargs, u1, R.add, vop, vbin, vint2, vstr2, vbool2, vnum, vun, vpick, vpick1, vbool, vconv, vnil, vfieldAddr, vindexAddr, vindex, vload, vfield, aggD, vslice, bnd, uopt, vlen, vmin, vextract, Hpk, Hroot, refV, ownR, V.i, V.elems, V.cell, V.cut, V.exact, V.ex0, exL, V.cl, clL, V.sc, scL, scO, scH, V.ct, ct1, ct2, RetP, RetK, RetH, retL, retOne, Back, Veq, subH, obs, obsIf, En.get, En.put, En.ev, enOf, gcond, wantB, constV, exGet, subE, Sub, RV, RVL, NR, RO, subER, subHR, newLt, oldNe, oldOk, oldGe, notIn, ivN, lookN, SubR, Nm.root, Nat.reduceMul, Nat.reduceLeDiff, Nat.reduceEqDiff, Nat.reduceLT, Nat.reduceAdd, Nat.reduceSub, ↓reduceIte, implies_true, reduceCtorEq, ne_eq, ↓shr_eq, IntKind.bits, Int.reduceToNat, Int.reducePow, dite_eq_ite, Value.oneCell', Nat.reduceBEq, Nat.reduceDiv, sd, nm, ty, tlsV, tlvD, tloV, tlvOD, tb, GK, GKf]
          refine ⟨by omega, by omega, ?_⟩
          generalize hK4 : Kseq _ _ _ _ = K4
          refine LoopC.intro (α := Nat) (fun q => (ts.getD i default).data.length ≤ q ∧ q ≤ (ts.getD i default).data.length + 90)
            (fun q => ⟨[(13, .i q), (11, .i i), (0, tlsV ts), (1, .val (.int .i64 p)), (7, .ro (.r g))], [(g, .row 25 (.sq 1 (.by []) (grL ts p ts.length)))], N⟩) (fun q => (ts.getD i default).data.length + 90 - q) (ts.getD i default).data.length ⟨Nat.le_refl _, by omega⟩ ?_ ?_
          · simp only [vquietR, vopsR, RetC, retW, cellR, undV, vgA, vbinN, vnn, isNilC, isIf, vconvH, vconvO, cvOk, frz1, frzE, jsOk, jsCo, rowsH, vgcH, vgH, vopsT, stepE, Kseq_app, vg_skip, vg_label, vg_seq, vg_region, vg_cond, vg_block, vg_exit, vg_ret, vg_loop, vcallF, vcallH, uls, HdelK, memN, noBox, ninL, keysH, jsAt, AdSub, adopt, noEl, isNil, effL, effO, vopsD, vquiet, vfstD, ldq, ldOk, vops, vfst, vone, vact, ug, addL, vbox, valloc, vstore, vbuild, vbuildSlice, vappend, vmake, zeroS, zeroE, vstrB, apC, nrm, nr1, nrL, keyL, neqs, diffs, V.app, V.len, vsrc, vdst, mkSl, mkBy, inOrd, placeAll, V.one, V.sto, V.csize, V.parts, V.cellsL, setMany, V.setB, V.setE, V.setO, V.noOwn, V.isOwn, vq, vcall, fzA, fz, fz1, fzL, fzN, rts, rt1, V.er, er1, er2, mixA, mixK, uargs, u1, R.add, vop, vbin, vint2, vstr2, vbool2, vnum, vun, vpick, vpick1, vbool, vconv, vnil, vfieldAddr, vindexAddr, vindex, vload, vfield, aggD, vslice, bnd, uopt, vlen, vmin, vextract, Hpk, Hroot, refV, ownR, V.i, V.elems, V.cell, V.cut, V.exact, V.ex0, exL, V.cl, clL, V.sc, scL, scO, scH, V.ct, ct1, ct2, RetP, RetK, RetH, retL, retOne, Back, Veq, subH, obs, obsIf, En.get, En.put, En.ev, enOf, gcond, wantB, constV, exGet, subE, Sub, RV, RVL, NR, RO, subER, subHR, newLt, oldNe, oldOk, oldGe, notIn, ivN, lookN, SubR, Nm.root, Nat.reduceMul, Nat.reduceLeDiff, Nat.reduceEqDiff, Nat.reduceLT, Nat.reduceAdd, Nat.reduceSub, ↓reduceIte, implies_true, reduceCtorEq, ne_eq, ↓shr_eq, IntKind.bits, Int.reduceToNat, Int.reducePow, dite_eq_ite, Value.oneCell', Nat.reduceBEq, Nat.reduceDiv, sd, nm, ty, tlsV, tlvD, tloV, tlvOD, tb]
            exact Nat.le_refl _
          · clear hq hq2 q
            intro q hq
            simp only [vquietR, vopsR, RetC, retW, cellR, undV, vgA, vbinN, vnn, isNilC, isIf, vconvH, vconvO, cvOk, frz1, frzE, jsOk, jsCo, rowsH, vgcH, vgH, vopsT, stepE, Kseq_app, vg_skip, vg_label, vg_seq, vg_region, vg_cond, vg_block, vg_exit, vg_ret, vg_loop, vcallF, vcallH, uls, HdelK, memN, noBox, ninL, keysH, jsAt, AdSub, adopt, noEl, isNil, effL, effO, vopsD, vquiet, vfstD, ldq, ldOk, vops, vfst, vone, vact, ug, addL, vbox, valloc, vstore, vbuild, vbuildSlice, vappend, vmake, zeroS, zeroE, vstrB, apC, nrm, nr1, nrL, keyL, neqs, diffs, V.app, V.len, vsrc, vdst, mkSl, mkBy, inOrd, placeAll, V.one, V.sto, V.csize, V.parts, V.cellsL, setMany, V.setB, V.setE, V.setO, V.noOwn, V.isOwn, vq, vcall, fzA, fz, fz1, fzL, fzN, rts, rt1, V.er, er1, er2, mixA, mixK, uargs, u1, R.add, vop, vbin, vint2, vstr2, vbool2, vnum, vun, vpick, vpick1, vbool, vconv, vnil, vfieldAddr, vindexAddr, vindex, vload, vfield, aggD, vslice, bnd, uopt, vlen, vmin, vextract, Hpk, Hroot, refV, ownR, V.i, V.elems, V.cell, V.cut, V.exact, V.ex0, exL, V.cl, clL, V.sc, scL, scO, scH, V.ct, ct1, ct2, RetP, RetK, RetH, retL, retOne, Back, Veq, subH, obs, obsIf, En.get, En.put, En.ev, enOf, gcond, wantB, constV, exGet, subE, Sub, RV, RVL, NR, RO, subER, subHR, newLt, oldNe, oldOk, oldGe, notIn, ivN, lookN, SubR, Nm.root, Nat.reduceMul, Nat.reduceLeDiff, Nat.reduceEqDiff, Nat.reduceLT, Nat.reduceAdd, Nat.reduceSub, ↓reduceIte, implies_true, reduceCtorEq, ne_eq, ↓shr_eq, IntKind.bits, Int.reduceToNat, Int.reducePow, dite_eq_ite, Value.oneCell', Nat.reduceBEq, Nat.reduceDiv, sd, nm, ty, tlsV, tlvD, tloV, tlvOD, tb, GK, GKf, grL_len, grL_get ts p hi2, List.length_append, List.length_replicate]
            refine ⟨by omega, by omega, by omega, fun hq2 => ?_, fun hq2 => ?_⟩
            · simp only [decide_eq_true_eq] at hq2
              have hq2 : q < (ts.getD i default).data.length + 90 := by omega
              refine DrawC.rows [(0, some (true, [])), (1, some (true, [])), (2, some (true, [])), (3, some (true, [])), (4, some (true, [])),
  (5, some (true, [])), (6, some (true, [])), (7, some (true, [])), (8, some (true, [])), (9, none),
  (10, some (true, []))] [] [] (by kernel_rfl) ?_
              have hm := moreI_u8 i p
              have hb : byteAt ((ts.getD i default).data ++ List.replicate 90 (u8 (moreI i p))) q = moreI i p := by
                have := byteAt_rep hm.1 hm.2 (n := 90) (ts.getD i default).data [] (q := q) hq.1 hq2
                simpa only [List.append_nil] using this
              simp only [vquietR, vopsR, RetC, retW, cellR, undV, vgA, vbinN, vnn, isNilC, isIf, vconvH, vconvO, cvOk, frz1, frzE, jsOk, jsCo, rowsH, vgcH, vgH, vopsT, stepE, Kseq_app, vg_skip, vg_label, vg_seq, vg_region, vg_cond, vg_block, vg_exit, vg_ret, vg_loop, vcallF, vcallH, uls, HdelK, memN, noBox, ninL, keysH, jsAt, AdSub, adopt, noEl, isNil, effL, effO, vopsD, vquiet, vfstD, ldq, ldOk, vops, vfst, vone, vact, ug, addL, vbox, valloc, vstore, vbuild, vbuildSlice, vappend, vmake, zeroS, zeroE, vstrB, apC, nrm, nr1, nrL, keyL, neqs, diffs, V.app, V.len, vsrc, vdst, mkSl, mkBy, inOrd, placeAll, V.one, V.sto, V.csize, V.parts, V.cellsL, setMany, V.setB, V.setE, V.setO, V.noOwn, V.isOwn, vq, vcall, fzA, fz, fz1, fzL, fzN, rts, rt1, V.er, er1, er2, mixA, mixK, uargs, u1, R.add, vop, vbin, vint2, vstr2, vbool2, vnum, vun, vpick, vpick1, vbool, vconv, vnil, vfieldAddr, vindexAddr, vindex, vload, vfield, aggD, vslice, bnd, uopt, vlen, vmin, vextract, Hpk, Hroot, refV, ownR, V.i, V.elems, V.cell, V.cut, V.exact, V.ex0, exL, V.cl, clL, V.sc, scL, scO, scH, V.ct, ct1, ct2, RetP, RetK, RetH, retL, retOne, Back, Veq, subH, obs, obsIf, En.get, En.put, En.ev, enOf, gcond, wantB, constV, exGet, subE, Sub, RV, RVL, NR, RO, subER, subHR, newLt, oldNe, oldOk, oldGe, notIn, ivN, lookN, SubR, Nm.root, Nat.reduceMul, Nat.reduceLeDiff, Nat.reduceEqDiff, Nat.reduceLT, Nat.reduceAdd, Nat.reduceSub, ↓reduceIte, implies_true, reduceCtorEq, ne_eq, ↓shr_eq, IntKind.bits, Int.reduceToNat, Int.reducePow, dite_eq_ite, Value.oneCell', Nat.reduceBEq, Nat.reduceDiv, sd, nm, ty, tlsV, tlvD, tloV, tlvOD, tb, GK, GKf, grL_len, grL_get ts p hi2, List.length_append, List.length_replicate, hb, Int.toNat_natCast]
              refine ⟨by omega, by omega, by omega, by omega, by omega, by omega, by omega, fun h => by simp at h, fun _ => ⟨by constructor <;> omega, Again.intro (q + 1) ⟨by omega, by omega⟩ (by omega) ?_⟩⟩
              simp only [vquietR, vopsR, RetC, retW, cellR, undV, vgA, vbinN, vnn, isNilC, isIf, vconvH, vconvO, cvOk, frz1, frzE, jsOk, jsCo, rowsH, vgcH, vgH, vopsT, stepE, Kseq_app, vg_skip, vg_label, vg_seq, vg_region, vg_cond, vg_block, vg_exit, vg_ret, vg_loop, vcallF, vcallH, uls, HdelK, memN, noBox, ninL, keysH, jsAt, AdSub, adopt, noEl, isNil, effL, effO, vopsD, vquiet, vfstD, ldq, ldOk, vops, vfst, vone, vact, ug, addL, vbox, valloc, vstore, vbuild, vbuildSlice, vappend, vmake, zeroS, zeroE, vstrB, apC, nrm, nr1, nrL, keyL, neqs, diffs, V.app, V.len, vsrc, vdst, mkSl, mkBy, inOrd, placeAll, V.one, V.sto, V.csize, V.parts, V.cellsL, setMany, V.setB, V.setE, V.setO, V.noOwn, V.isOwn, vq, vcall, fzA, fz, fz1, fzL, fzN, rts, rt1, V.er, er1, er2, mixA, mixK, uargs, u1, R.add, vop, vbin, vint2, vstr2, vbool2, vnum, vun, vpick, vpick1, vbool, vconv, vnil, vfieldAddr, vindexAddr, vindex, vload, vfield, aggD, vslice, bnd, uopt, vlen, vmin, vextract, Hpk, Hroot, refV, ownR, V.i, V.elems, V.cell, V.cut, V.exact, V.ex0, exL, V.cl, clL, V.sc, scL, scO, scH, V.ct, ct1, ct2, RetP, RetK, RetH, retL, retOne, Back, Veq, subH, obs, obsIf, En.get, En.put, En.ev, enOf, gcond, wantB, constV, exGet, subE, Sub, RV, RVL, NR, RO, subER, subHR, newLt, oldNe, oldOk, oldGe, notIn, ivN, lookN, SubR, Nm.root, Nat.reduceMul, Nat.reduceLeDiff, Nat.reduceEqDiff, Nat.reduceLT, Nat.reduceAdd, Nat.reduceSub, ↓reduceIte, implies_true, reduceCtorEq, ne_eq, ↓shr_eq, IntKind.bits, Int.reduceToNat, Int.reducePow, dite_eq_ite, Value.oneCell', Nat.reduceBEq, Nat.reduceDiv, sd, nm, ty, tlsV, tlvD, tloV, tlvOD, tb]
              refine ⟨by omega, Nat.le_refl _⟩
            · rw [← hK4]
              simp only [vquietR, vopsR, RetC, retW, cellR, undV, vgA, vbinN, vnn, isNilC, isIf, vconvH, vconvO, cvOk, frz1, frzE, jsOk, jsCo, rowsH, vgcH, vgH, vopsT, stepE, Kseq_app, vg_skip, vg_label, vg_seq, vg_region, vg_cond, vg_block, vg_exit, vg_ret, vg_loop, vcallF, vcallH, uls, HdelK, memN, noBox, ninL, keysH, jsAt, AdSub, adopt, noEl, isNil, effL, effO, vopsD, vquiet, vfstD, ldq, ldOk, vops, vfst, vone, vact, ug, addL, vbox, valloc, vstore, vbuild, vbuildSlice, vappend, vmake, zeroS, zeroE, vstrB, apC, nrm, nr1, nrL, keyL, neqs, diffs, V.app, V.len, vsrc, vdst, mkSl, mkBy, inOrd, placeAll, V.one, V.sto, V.csize, V.parts, V.cellsL, setMany, V.setB, V.setE, V.setO, V.noOwn, V.isOwn, vq, vcall, fzA, fz, fz1, fzL, fzN, rts, rt1, V.er, er1, er2, mixA, mixK, uargs, u1, R.add, vop, vbin, vint2, vstr2, vbool2, vnum, vun, vpick, vpick1, vbool, vconv, vnil, vfieldAddr, vindexAddr, vindex, vload, vfield, aggD, vslice, bnd, uopt, vlen, vmin, vextract, Hpk, Hroot, refV, ownR, V.i, V.elems, V.cell, V.cut, V.exact, V.ex0, exL, V.cl, clL, V.sc, scL, scO, scH, V.ct, ct1, ct2, RetP, RetK, RetH, retL, retOne, Back, Veq, subH, obs, obsIf, En.get, En.put, En.ev, enOf, gcond, wantB, constV, exGet, subE, Sub, RV, RVL, NR, RO, subER, subHR, newLt, oldNe, oldOk, oldGe, notIn, ivN, lookN, SubR, Nm.root, Nat.reduceMul, Nat.reduceLeDiff, Nat.reduceEqDiff, Nat.reduceLT, Nat.reduceAdd, Nat.reduceSub, ↓reduceIte, implies_true, reduceCtorEq, ne_eq, ↓shr_eq, IntKind.bits, Int.reduceToNat, Int.reducePow, dite_eq_ite, Value.oneCell', Nat.reduceBEq, Nat.reduceDiv, sd, nm, ty, tlsV, tlvD, tloV, tlvOD, tb, GK, GKf]
              refine ⟨by constructor <;> omega, Again.intro (i + 1) (by omega) (by omega) ?_⟩
              simp only [vquietR, vopsR, RetC, retW, cellR, undV, vgA, vbinN, vnn, isNilC, isIf, vconvH, vconvO, cvOk, frz1, frzE, jsOk, jsCo, rowsH, vgcH, vgH, vopsT, stepE, Kseq_app, vg_skip, vg_label, vg_seq, vg_region, vg_cond, vg_block, vg_exit, vg_ret, vg_loop, vcallF, vcallH, uls, HdelK, memN, noBox, ninL, keysH, jsAt, AdSub, adopt, noEl, isNil, effL, effO, vopsD, vquiet, vfstD, ldq, ldOk, vops, vfst, vone, vact, ug, addL, vbox, valloc, vstore, vbuild, vbuildSlice, vappend, vmake, zeroS, zeroE, vstrB, apC, nrm, nr1, nrL, keyL, neqs, diffs, V.app, V.len, vsrc, vdst, mkSl, mkBy, inOrd, placeAll, V.one, V.sto, V.csize, V.parts, V.cellsL, setMany, V.setB, V.setE, V.setO, V.noOwn, V.isOwn, vq, vcall, fzA, fz, fz1, fzL, fzN, rts, rt1, V.er, er1, er2, mixA, mixK, uargs, u1, R.add, vop, vbin, vint2, vstr2, vbool2, vnum, vun, vpick, vpick1, vbool, vconv, vnil, vfieldAddr, vindexAddr, vindex, vload, vfield, aggD, vslice, bnd, uopt, vlen, vmin, vextract, Hpk, Hroot, refV, ownR, V.i, V.elems, V.cell, V.cut, V.exact, V.ex0, exL, V.cl, clL, V.sc, scL, scO, scH, V.ct, ct1, ct2, RetP, RetK, RetH, retL, retOne, Back, Veq, subH, obs, obsIf, En.get, En.put, En.ev, enOf, gcond, wantB, constV, exGet, subE, Sub, RV, RVL, NR, RO, subER, subHR, newLt, oldNe, oldOk, oldGe, notIn, ivN, lookN, SubR, Nm.root, Nat.reduceMul, Nat.reduceLeDiff, Nat.reduceEqDiff, Nat.reduceLT, Nat.reduceAdd, Nat.reduceSub, ↓reduceIte, implies_true, reduceCtorEq, ne_eq, ↓shr_eq, IntKind.bits, Int.reduceToNat, Int.reducePow, dite_eq_ite, Value.oneCell', Nat.reduceBEq, Nat.reduceDiv, sd, nm, ty, tlsV, tlvD, tloV, tlvOD, tb]
              refine ⟨by omega, Nat.le_refl _⟩
    · rw [← hK]
      simp only [vquietR, vopsR, RetC, retW, cellR, undV, vgA, vbinN, vnn, isNilC, isIf, vconvH, vconvO, cvOk, frz1, frzE, jsOk, jsCo, rowsH, vgcH, vgH, vopsT, stepE, Kseq_app, vg_skip, vg_label, vg_seq, vg_region, vg_cond, vg_block, vg_exit, vg_ret, vg_loop, vcallF, vcallH, uls, HdelK, memN, noBox, ninL, keysH, jsAt, AdSub, adopt, noEl, isNil, effL, effO, vopsD, vquiet, vfstD, ldq, ldOk, vops, vfst, vone, vact, ug, addL, vbox, valloc, vstore, vbuild, vbuildSlice, vappend, vmake, zeroS, zeroE, vstrB, apC, nrm, nr1, nrL, keyL, neqs, diffs, V.app, V.len, vsrc, vdst, mkSl, mkBy, inOrd, placeAll, V.one, V.sto, V.csize, V.parts, V.cellsL, setMany, V.setB, V.setE, V.setO, V.noOwn, V.isOwn, vq, vcall, fzA, fz, fz1, fzL, fzN, rts, rt1, V.er, er1, er2, mixA, mixK, uargs, u1, R.add, vop, vbin, vint2, vstr2, vbool2, vnum, vun, vpick, vpick1, vbool, vconv, vnil, vfieldAddr, vindexAddr, vindex, vload, vfield, aggD, vslice, bnd, uopt, vlen, vmin, vextract, Hpk, Hroot, refV, ownR, V.i, V.elems, V.cell, V.cut, V.exact, V.ex0, exL, V.cl, clL, V.sc, scL, scO, scH, V.ct, ct1, ct2, RetP, RetK, RetH, retL, retOne, Back, Veq, subH, obs, obsIf, En.get, En.put, En.ev, enOf, gcond, wantB, constV, exGet, subE, Sub, RV, RVL, NR, RO, subER, subHR, newLt, oldNe, oldOk, oldGe, notIn, ivN, lookN, SubR, Nm.root, Nat.reduceMul, Nat.reduceLeDiff, Nat.reduceEqDiff, Nat.reduceLT, Nat.reduceAdd, Nat.reduceSub, ↓reduceIte, implies_true, reduceCtorEq, ne_eq, ↓shr_eq, IntKind.bits, Int.reduceToNat, Int.reducePow, dite_eq_ite, Value.oneCell', Nat.reduceBEq, Nat.reduceDiv, sd, nm, ty, tlsV, tlvD, tloV, tlvOD, tb, GK, GKf]
end
end Go.Proofs.YtelaolingpbnfaaDoor
namespace Go.Proofs.YtelaolingpbnfaaDoor
open Go.RowKit
set_option linter.unusedSimpArgs false
set_option maxRecDepth 100000
theorem kB_eq : Tryd.f48.body = some (.seq (cL kB) (.seq (cL (cR kB)) (.seq (cL (cR (cR kB))) (.seq k2 (cR (cR (cR (cR kB)))))))) := by kernel_rfl
section
variable {P : Program} {x x0 : Fx} {F : Cx} {w : World} {a : Act} {s : S}
theorem lst_map {ts : List Tlv} {vs us : Nat → V} {d : V} {y : Value} (h : Rep w F (.sq 3 d (lst ts vs)) y) (hr : ∀ i, i < ts.length → ∀ z, Rep w F (vs i) z → Rep w F (us i) z) : Rep w F (.sq 3 d (lst ts us)) y := by
  have he : (V.sq 3 d (lst ts vs)).elems = some (3, ts.length, fun i => (lst ts vs).getD i d) := by simp [V.elems, lst_len]
  have he2 : (V.sq 3 d (lst ts us)).elems = some (3, ts.length, fun i => (lst ts us).getD i d) := by simp [V.elems, lst_len]
  obtain ⟨A, cap, b, off, u, rfl, hcap, hA, hc, hrr⟩ := rep_sl he h
  refine .sl _ 3 ts.length _ A cap b off u he2 hcap hA hc fun i hi j hj => ?_
  have h1 := hrr i hi j hj
  simp only [lst_get ts _ d hi] at h1 ⊢
  have : j = 0 ∨ j = 1 ∨ j = 2 := by omega
  rcases this with rfl | rfl | rfl
  · exact h1
  · exact hr i hi _ h1
  · exact h1
theorem Sat.slot (hs : Sat x s F a w) {t : Nat} {v v' : V} (ht : s.e.get t = some v) (hr : ∀ y, Rep w F v y → Rep w F v' y) : Sat x ⟨(t, v') :: s.e, s.h, s.nx⟩ F a w := by
  refine ⟨hs.ev, fun t' u hu => ?_, hs.df, hs.sz, hs.fold, hs.flt, hs.nx, hs.own, hs.own2, hs.own3, hs.sep, hs.wsl, hs.le, hs.inv⟩
  simp only [En.get] at hu
  split at hu
  · rename_i e; subst e
    obtain rfl := Option.some.inj hu
    obtain ⟨h1, h2⟩ := hs.env _ _ ht
    exact ⟨h1, hr _ h2⟩
  · exact hs.env _ _ hu
theorem bas_of {J : Inv} {k nx n : Nat} {F0 : Cx} {w0 : World} {ts : List Tlv} {X0 : Value} {hv : Nat → Value} (hM : Mem J [(k, .row 36 (tloV ts))] nx F0 w0) (hW : F0.W (.r k) = some X0) (hC : ∀ i, i < ts.length → F0.W (.c k i 1) = some (hv i)) :
    Bas (fx0 J w0 F0 [(k, .row 36 (tloV ts))] n) X0 hv ts.length := by
  have g0 : Hget [(k, .row 36 (tloV ts))] (.r k) = some (.row 36 (tloV ts)) := by simp only [Hget, Hroot, if_true]
  have g1 : ∀ i, i < ts.length → Hget [(k, .row 36 (tloV ts))] (.c k i 1) = some (.row 5 (.by (ts.getD i default).data)) := fun i hi => by
    simp only [Hget, Hchild, Hroot, if_true, tlo_elems, tlo_getD]
    rw [if_pos ⟨hi, by omega⟩]; rfl
  have c0 : ∀ g, X0.ownBlock = some g → F0.blk (.r k) (.row 36 (tloV ts)) = some g := fun g hg => by simp [Cx.blk, hW, hg]
  have c1 : ∀ i, i < ts.length → ∀ g, (hv i).ownBlock = some g → F0.blk (.c k i 1) (.row 5 (.by (ts.getD i default).data)) = some g := fun i hi g hg => by simp [Cx.blk, hC i hi, hg]
  have hBF : ∀ g, Blk F0 [(k, .row 36 (tloV ts))] g → F0.F g := fun g ⟨m, ob, h1, h2⟩ => by
    have hok := hM.own m ob h1
    cases ob with
    | box ty v => obtain ⟨b, cs, u, e1, _, _, _, _, e6⟩ := hok; simp only [Cx.blk] at h2; rw [e1] at h2; obtain rfl := Option.some.inj h2; exact e6
    | row ty v => obtain ⟨y, _, _, _, _, _, e1, _, _, _, _, _, e7⟩ := hok; simp only [Cx.blk, e1, Option.bind_some] at h2; exact e7 g h2
  have all : ∀ b, Blk F0 [(k, .row 36 (tloV ts))] b → Blk F0 [(k, .row 36 (tloV ts))] b ∧ ¬ (F0.F b ∧ ¬ Blk F0 [(k, .row 36 (tloV ts))] b) ∧ b < w0.heap.size ∧ F0.F b := fun b hb => ⟨hb, fun h => h.2 hb, hM.flt b (hBF b hb), hBF b hb⟩
  refine ⟨fun b hb => all b ⟨.r k, _, g0, c0 b hb⟩, fun j hj b hb => all b ⟨.c k j 1, _, g1 j hj, c1 j hj b hb⟩, fun j hj b hb hb' => ?_, fun j j' hj hj' b hb hb' => ?_, fun b hb => hM.flt b hb.1⟩
  · cases hM.sep _ _ _ _ b g0 (g1 j hj) (c0 b hb) (c1 j hj b hb')
  · have := hM.sep _ _ _ _ b (g1 j hj) (g1 j' hj') (c1 j hj b hb) (c1 j' hj' b hb')
    injection this
/-- Three statements, of which the first three are walked by the generator. -/
theorem wp_three {G : Sig} {c1 c2 c3 c4 : Code} {R : S → Prop} {Q : Exit → Act → World → Prop} (hG : SigOk P G) (hJ : x.J = G.J) (hb : ∀ m : Nm, G.b ≤ m.root → x.C.O m = none ∧ x.C.W m = none) (hm : P.follows .mixedOrders = true) (ho : okC x.n (.seq c1 (.seq c2 c3)) = true)
    (hv : vg P G (.seq c1 (.seq c2 c3)) s ⟨R, fun _ => False, []⟩) (hs : Sat x s F a w) (hR : ∀ s F a w, R s → Sat x s F a w → c4.wp P Q a w) : (Code.seq c1 (.seq c2 (.seq c3 c4))).wp P Q a w := by
  simp only [okC, Bool.and_eq_true] at ho
  refine wp_seq (vg_ok hG hJ hb hm c1 s _ _ F a w ho.1 hv ⟨fun s1 F1 a1 w1 h1 hs1 => ?_, fun _ _ _ _ h => h.elim, fun _ _ h => by simp [exGet] at h⟩ hs)
  refine wp_seq (vg_ok hG hJ hb hm c2 s1 _ _ F1 a1 w1 ho.2.1 h1 ⟨fun s2 F2 a2 w2 h2 hs2 => ?_, fun _ _ _ _ h => h.elim, fun _ _ h => by simp [exGet] at h⟩ hs1)
  refine wp_seq (vg_ok hG hJ hb hm c3 s2 _ _ F2 a2 w2 ho.2.2 h2 ⟨fun s3 F3 a3 w3 h3 hs3 => ?_, fun _ _ _ _ h => h.elim, fun _ _ h => by simp [exGet] at h⟩ hs2)
  exact hR s3 F3 a3 w3 h3 hs3
end
theorem keeps_own (J : Inv) (ts : List Tlv) (k nx : Nat) (p : Int) (hl : ts.length ≤ 16777216) (hd : ∀ t ∈ ts, t.data.length ≤ 16777216) :
    FnH Tryd.prog J 48 [.ro (.r k), .val (.int .i64 p)] [(k, .row 36 (tloV ts))] nx (.bb true) [(k, .row 36 (tloV (mkd ts p)))] nx := by
  have hm : Tryd.prog.follows .mixedOrders = true := by kernel_rfl
  have hd' : ∀ i, i < ts.length → (ts.getD i default).data.length ≤ 16777216 := fun i hi => hd _ (by rw [List.getD_eq_getElem?_getD, List.getElem?_eq_getElem hi]; exact List.getElem_mem hi)
  refine fnH_wp Tryd.func48 kB_eq (by kernel_rfl) (Nat.le_of_ble_eq_true (by kernel_rfl)) fun w0 F0 a0 Q hM hs0 hK => ?_
  refine wp_three (G := GK J nx) (GK_ok J nx) rfl (fun m hm' => hM.nx m hm') hm (by kernel_rfl) (keeps_l1 J ts k nx p hl hd') hs0 fun s1 F1 a1 w1 hsub hs1 => ?_
  have hs1 := hs1.sub hsub
  obtain ⟨X0, _, hv, hW0, hC0, _⟩ := lim_of (w := w0) (F := F0) (s := ⟨[], [(k, .row 36 (tloV ts))], nx⟩) (k := k) (ts := ts) hM.own (by simp [Hroot])
  obtain ⟨X1, xs, hv1, hW1, hC1, hlim⟩ := lim_of (k := k) (ts := mkd ts p) hs1.own (by simp [Hroot])
  have hW : F1.W (.r k) = some X0 := hs1.le.le3 _ _ hW0
  have hC : ∀ i, i < ts.length → F1.W (.c k i 1) = some (hv i) := fun i hi => hs1.le.le3 _ _ (hC0 i hi)
  obtain rfl : X1 = X0 := by rw [hW] at hW1; exact (Option.some.inj hW1).symm
  have hvv : ∀ i, i < (mkd ts p).length → hv1 i = hv i := fun i hi => by
    have h1 := hC1 i hi
    rw [hC i (by rw [mkd_len] at hi; exact hi)] at h1
    exact (Option.some.inj h1).symm
  replace hlim : Lim w1 X1 xs hv (mkd ts p) := ⟨hlim.row, hlim.xs0, fun i hi => by rw [← hvv i hi]; exact hlim.xs1 i hi, hlim.xs2, hlim.one, fun i hi => by rw [← hvv i hi]; exact hlim.kid i hi⟩
  have hb := bas_of (n := Tryd.f48.ntmps) hM hW0 hC0
  rw [← mkd_len ts p] at hb
  have hkF : ∀ i, i < (mkd ts p).length → ∀ b, (hv i).ownBlock = some b → F1.F b := fun i hi b hb' => by
    have hi' : i < ts.length := by rw [mkd_len] at hi; exact hi
    refine blk_F hs1 (k := .c k i 1) (o := .row 5 (.by ((mkd ts p).getD i default).data)) ?_ (by simp [Cx.blk, hC i hi', hb'])
    simp only [Hget, Hchild, Hroot, if_true, tlo_elems, tlo_getD]
    rw [if_pos ⟨hi, by omega⟩]; rfl
  -- the list is left alone
  have hs2 : Sat _ ⟨[(0, .ro (.r k)), (1, .val (.int .i64 p)), (7, .val (.slice none 0 0))], [], nx⟩ F1 a1 w1 := hs1.sub (by simp only [vquietR, vopsR, RetC, retW, cellR, undV, vgA, vbinN, vnn, isNilC, isIf, vconvH, vconvO, cvOk, frz1, frzE, jsOk, jsCo, rowsH, vgcH, vgH, vopsT, stepE, Kseq_app, vg_skip, vg_label, vg_seq, vg_region, vg_cond, vg_block, vg_exit, vg_ret, vg_loop, vcallF, vcallH, uls, HdelK, memN, noBox, ninL, keysH, jsAt, AdSub, adopt, noEl, isNil, effL, effO, vopsD, vquiet, vfstD, ldq, ldOk, vops, vfst, vone, vact, ug, addL, vbox, valloc, vstore, vbuild, vbuildSlice, vappend, vmake, zeroS, zeroE, vstrB, apC, nrm, nr1, nrL, keyL, neqs, diffs, V.app, V.len, vsrc, vdst, mkSl, mkBy, inOrd, placeAll, V.one, V.sto, V.csize, V.parts, V.cellsL, setMany, V.setB, V.setE, V.setO, V.noOwn, V.isOwn, vq, vcall, fzA, fz, fz1, fzL, fzN, rts, rt1, V.er, er1, er2, mixA, mixK, uargs, u1, R.add, vop, vbin, vint2, vstr2, vbool2, vnum, vun, vpick, vpick1, vbool, vconv, vnil, vfieldAddr, vindexAddr, vindex, vload, vfield, aggD, vslice, bnd, uopt, vlen, vmin, vextract, Hpk, Hroot, refV, ownR, V.i, V.elems, V.cell, V.cut, V.exact, V.ex0, exL, V.cl, clL, V.sc, scL, scO, scH, V.ct, ct1, ct2, RetP, RetK, RetH, retL, retOne, Back, Veq, subH, obs, obsIf, En.get, En.put, En.ev, enOf, gcond, wantB, constV, exGet, subE, Sub, RV, RVL, NR, RO, subER, subHR, newLt, oldNe, oldOk, oldGe, notIn, ivN, lookN, SubR, Nm.root, Nat.reduceMul, Nat.reduceLeDiff, Nat.reduceEqDiff, Nat.reduceLT, Nat.reduceAdd, Nat.reduceSub, ↓reduceIte, implies_true, reduceCtorEq, ne_eq, ↓shr_eq, IntKind.bits, Int.reduceToNat, Int.reducePow, dite_eq_ite, Value.oneCell', Nat.reduceBEq, Nat.reduceDiv, sd, nm, ty, tlsV, tlvD, tloV, tlvOD, tb]; exact Nat.le_refl _)
  obtain ⟨r1, hs3⟩ := hs2.root (Root.refl _)
  obtain ⟨x2, F2, r2, hs4, hFW, hFF, hxF⟩ := hs3.drop r1 (fun b => X1.ownBlock = some b) (fun b hb' => ⟨fun ⟨m, ob, hm', _⟩ => by cases m <;> simp [Hget, Hroot, Hchild] at hm', (hb.b0 b hb').2.1⟩)
  have hfro : Fro _ X1 xs hv (mkd ts p) 0 x2 F2 w1 := ⟨r2, hlim, fun b hb' hF => ((hFF b).1 hF).2 hb', fun j hj => by omega, fun j _ hj b hb' => hxF b ⟨hkF j hj b hb', fun ⟨m, ob, hm', _⟩ => by cases m <;> simp [Hget, Hroot, Hchild] at hm'⟩ fun e => hb.s0 j hj b e hb'⟩
  have hs5 := hs4.slot (t := 0) (v' := hdV (mkd ts p) hv) rfl (fun y hy => by
    have : F2.W (.r k) = some y := rep_ro hy
    rw [hFW, hW] at this
    obtain rfl := Option.some.inj this
    exact hlim.rep (fun g hg hF => ((hFF g).1 hF).2 hg) _ (fun i hi => .val _) tlvD)
  have hs6 := hs5.sub (t := ⟨[(0, hdV (mkd ts p) hv), (1, .val (.int .i64 p)), (7, .val (.slice none 0 0))], [], nx⟩) (by simp only [vquietR, vopsR, RetC, retW, cellR, undV, vgA, vbinN, vnn, isNilC, isIf, vconvH, vconvO, cvOk, frz1, frzE, jsOk, jsCo, rowsH, vgcH, vgH, vopsT, stepE, Kseq_app, vg_skip, vg_label, vg_seq, vg_region, vg_cond, vg_block, vg_exit, vg_ret, vg_loop, vcallF, vcallH, uls, HdelK, memN, noBox, ninL, keysH, jsAt, AdSub, adopt, noEl, isNil, effL, effO, vopsD, vquiet, vfstD, ldq, ldOk, vops, vfst, vone, vact, ug, addL, vbox, valloc, vstore, vbuild, vbuildSlice, vappend, vmake, zeroS, zeroE, vstrB, apC, nrm, nr1, nrL, keyL, neqs, diffs, V.app, V.len, vsrc, vdst, mkSl, mkBy, inOrd, placeAll, V.one, V.sto, V.csize, V.parts, V.cellsL, setMany, V.setB, V.setE, V.setO, V.noOwn, V.isOwn, vq, vcall, fzA, fz, fz1, fzL, fzN, rts, rt1, V.er, er1, er2, mixA, mixK, uargs, u1, R.add, vop, vbin, vint2, vstr2, vbool2, vnum, vun, vpick, vpick1, vbool, vconv, vnil, vfieldAddr, vindexAddr, vindex, vload, vfield, aggD, vslice, bnd, uopt, vlen, vmin, vextract, Hpk, Hroot, refV, ownR, V.i, V.elems, V.cell, V.cut, V.exact, V.ex0, exL, V.cl, clL, V.sc, scL, scO, scH, V.ct, ct1, ct2, RetP, RetK, RetH, retL, retOne, Back, Veq, subH, obs, obsIf, En.get, En.put, En.ev, enOf, gcond, wantB, constV, exGet, subE, Sub, RV, RVL, NR, RO, subER, subHR, newLt, oldNe, oldOk, oldGe, notIn, ivN, lookN, SubR, Nm.root, Nat.reduceMul, Nat.reduceLeDiff, Nat.reduceEqDiff, Nat.reduceLT, Nat.reduceAdd, Nat.reduceSub, ↓reduceIte, implies_true, reduceCtorEq, ne_eq, ↓shr_eq, IntKind.bits, Int.reduceToNat, Int.reducePow, dite_eq_ite, Value.oneCell', Nat.reduceBEq, Nat.reduceDiv, sd, nm, ty, tlsV, tlvD, tloV, tlvOD, tb]; exact Nat.le_refl _)
  have hdd : ∀ i, i < (mkd ts p).length → ((mkd ts p).getD i default).data = List.replicate ((mkd ts p).getD i default).data.length (u8 (markI i p)) ∧ ((mkd ts p).getD i default).data.length ≤ 16777216 := fun i hi => by
    have hi' : i < ts.length := by rw [mkd_len] at hi; exact hi
    rw [mkd_get ts p hi']
    simp only [List.length_replicate]
    exact ⟨trivial, hd' i hi'⟩
  refine wp_seq (keeps_l2 J rfl rfl hb hfro hs6 (by rw [mkd_len]; exact hl) (fun i hi => (hdd i hi).2) fun x F a w g N h hs hg => ?_)
  clear hs6 hs5 hs4 hs3 hs2 hfro hFW hFF hxF hlim hs1
  have hs1 := hs.slot (t := 0) (v' := tlsV (mkd ts p)) rfl (fun y hy => by
    rw [tlsV, ← lst_tls]
    exact lst_map hy fun i hi z hz => by
      obtain rfl := rep_val hz
      exact kid_read (h.lim.kid i hi) (h.f1 i hi hi))
  have hs2 := hs1.sub (t := ⟨[(0, tlsV (mkd ts p)), (1, .val (.int .i64 p)), (7, .ro (.r g))], [(g, .row 25 (.sq 1 (.by []) (grL (mkd ts p) p (mkd ts p).length)))], N⟩) (by simp only [vquietR, vopsR, RetC, retW, cellR, undV, vgA, vbinN, vnn, isNilC, isIf, vconvH, vconvO, cvOk, frz1, frzE, jsOk, jsCo, rowsH, vgcH, vgH, vopsT, stepE, Kseq_app, vg_skip, vg_label, vg_seq, vg_region, vg_cond, vg_block, vg_exit, vg_ret, vg_loop, vcallF, vcallH, uls, HdelK, memN, noBox, ninL, keysH, jsAt, AdSub, adopt, noEl, isNil, effL, effO, vopsD, vquiet, vfstD, ldq, ldOk, vops, vfst, vone, vact, ug, addL, vbox, valloc, vstore, vbuild, vbuildSlice, vappend, vmake, zeroS, zeroE, vstrB, apC, nrm, nr1, nrL, keyL, neqs, diffs, V.app, V.len, vsrc, vdst, mkSl, mkBy, inOrd, placeAll, V.one, V.sto, V.csize, V.parts, V.cellsL, setMany, V.setB, V.setE, V.setO, V.noOwn, V.isOwn, vq, vcall, fzA, fz, fz1, fzL, fzN, rts, rt1, V.er, er1, er2, mixA, mixK, uargs, u1, R.add, vop, vbin, vint2, vstr2, vbool2, vnum, vun, vpick, vpick1, vbool, vconv, vnil, vfieldAddr, vindexAddr, vindex, vload, vfield, aggD, vslice, bnd, uopt, vlen, vmin, vextract, Hpk, Hroot, refV, ownR, V.i, V.elems, V.cell, V.cut, V.exact, V.ex0, exL, V.cl, clL, V.sc, scL, scO, scH, V.ct, ct1, ct2, RetP, RetK, RetH, retL, retOne, Back, Veq, subH, obs, obsIf, En.get, En.put, En.ev, enOf, gcond, wantB, constV, exGet, subE, Sub, RV, RVL, NR, RO, subER, subHR, newLt, oldNe, oldOk, oldGe, notIn, ivN, lookN, SubR, Nm.root, Nat.reduceMul, Nat.reduceLeDiff, Nat.reduceEqDiff, Nat.reduceLT, Nat.reduceAdd, Nat.reduceSub, ↓reduceIte, implies_true, reduceCtorEq, ne_eq, ↓shr_eq, IntKind.bits, Int.reduceToNat, Int.reducePow, dite_eq_ite, Value.oneCell', Nat.reduceBEq, Nat.reduceDiv, sd, nm, ty, tlsV, tlvD, tloV, tlvOD, tb]; exact Nat.le_refl _)
  show (cR (cR (cR (cR kB)))).wp Tryd.prog Q a w
  refine piece (G := GK J N) h.root hs2 (GK_ok J N) h.root.j rfl hm (by rw [h.root.n]; kernel_rfl) (keeps_l3 J (by rw [mkd_len]; exact hl) hdd) (fun x1 r1 hj1 hn1 hw hX hC' hF => ⟨fun _ _ _ _ h => h.elim, fun s' F' a' w' hr hs' => ?_, fun _ _ h => by simp [exGet] at h⟩)
  obtain ⟨h1, _⟩ := h.step hs2 r1 hw hX hC' hF hs'
  obtain ⟨G, hG⟩ := h1.lim.thaw hM r1 hs' (mkd_len ts p) hW0 (fun i hi => hC0 i (by rw [mkd_len] at hi; exact hi)) hr
  refine hK.ret _ G a' w' ?_ hG
  have hres : Tryd.f48.results.toList = [.tmp 4] := by kernel_rfl
  rw [hres]
  simp only [vquietR, vopsR, RetC, retW, cellR, undV, vgA, vbinN, vnn, isNilC, isIf, vconvH, vconvO, cvOk, frz1, frzE, jsOk, jsCo, rowsH, vgcH, vgH, vopsT, stepE, Kseq_app, vg_skip, vg_label, vg_seq, vg_region, vg_cond, vg_block, vg_exit, vg_ret, vg_loop, vcallF, vcallH, uls, HdelK, memN, noBox, ninL, keysH, jsAt, AdSub, adopt, noEl, isNil, effL, effO, vopsD, vquiet, vfstD, ldq, ldOk, vops, vfst, vone, vact, ug, addL, vbox, valloc, vstore, vbuild, vbuildSlice, vappend, vmake, zeroS, zeroE, vstrB, apC, nrm, nr1, nrL, keyL, neqs, diffs, V.app, V.len, vsrc, vdst, mkSl, mkBy, inOrd, placeAll, V.one, V.sto, V.csize, V.parts, V.cellsL, setMany, V.setB, V.setE, V.setO, V.noOwn, V.isOwn, vq, vcall, fzA, fz, fz1, fzL, fzN, rts, rt1, V.er, er1, er2, mixA, mixK, uargs, u1, R.add, vop, vbin, vint2, vstr2, vbool2, vnum, vun, vpick, vpick1, vbool, vconv, vnil, vfieldAddr, vindexAddr, vindex, vload, vfield, aggD, vslice, bnd, uopt, vlen, vmin, vextract, Hpk, Hroot, refV, ownR, V.i, V.elems, V.cell, V.cut, V.exact, V.ex0, exL, V.cl, clL, V.sc, scL, scO, scH, V.ct, ct1, ct2, RetP, RetK, RetH, retL, retOne, Back, Veq, subH, obs, obsIf, En.get, En.put, En.ev, enOf, gcond, wantB, constV, exGet, subE, Sub, RV, RVL, NR, RO, subER, subHR, newLt, oldNe, oldOk, oldGe, notIn, ivN, lookN, SubR, Nm.root, Nat.reduceMul, Nat.reduceLeDiff, Nat.reduceEqDiff, Nat.reduceLT, Nat.reduceAdd, Nat.reduceSub, ↓reduceIte, implies_true, reduceCtorEq, ne_eq, ↓shr_eq, IntKind.bits, Int.reduceToNat, Int.reducePow, dite_eq_ite, Value.oneCell', Nat.reduceBEq, Nat.reduceDiv, sd, nm, ty, tlsV, tlvD, tloV, tlvOD, tb]
  exact Nat.le_refl _
def GZh : FuncId → List V → List (Nat × Ob) → Nat → Option CallH := fun f args h nx =>
  if f = 48 then match args with
    | [.ro (.r k), .val (.int .i64 p)] => match Hroot h k with
      | some (.row _ (.sq _ _ L)) => some ⟨[L = tlo (unT L), (unT L).length ≤ 16777216, ∀ t ∈ unT L, t.data.length ≤ 16777216], [false], [(k, .row 36 (tloV (unT L)))], .bb true, [(k, .row 36 (tloV (mkd (unT L) p)))], nx⟩
      | _ => none
    | _ => none
  else none
def GZ (J : Inv) (b : Nat) : Sig := ⟨J, df, G0f, GZh, b⟩
theorem GZ_ok (J : Inv) (b : Nat) : SigOk Tryd.prog (GZ J b) := by
  refine ⟨fun f args l fr r h hl => by simp [GZ, G0f] at h, fun f args h nx c hc hl => ?_⟩
  change GZh f args h nx = some c at hc
  unfold GZh at hc
  split at hc
  · rename_i hf; subst hf
    split at hc
    · rename_i k p
      split at hc
      · rename_i ty sz d L hk
        obtain rfl := Option.some.inj hc
        exact keeps_own J (unT L) k nx p (hl _ (by simp)) (hl _ (by simp))
      · exact absurd hc (by simp)
    · exact absurd hc (by simp)
  · exact absurd hc (by simp)
theorem mkd_data {ts : List Tlv} {p : Int} (hd : ∀ t ∈ ts, t.data.length ≤ 16777216) : ∀ t ∈ mkd ts p, t.data.length ≤ 16777216 := by
  intro t ht
  simp only [mkd, List.mem_map, List.mem_range] at ht
  obtain ⟨i, hi, rfl⟩ := ht
  simp only [List.length_replicate]
  exact hd _ (by rw [List.getD_eq_getElem?_getD, List.getElem?_eq_getElem hi]; exact List.getElem_mem hi)
theorem spoil_own (J : Inv) (ts : List Tlv) (k nx : Nat) (hl : ts.length ≤ 16777216) (hd : ∀ t ∈ ts, t.data.length ≤ 16777216) :
    FnH Tryd.prog J 27 [.ro (.r k)] [(k, .row 36 (tloV ts))] nx (.bb true) [] nx := by
  refine fnH_intro Tryd.func27 rfl (by kernel_rfl) (Nat.le_of_ble_eq_true (by kernel_rfl)) (by kernel_rfl) (by kernel_rfl) (GZ_ok J nx) rfl ?_
  unfold Tryd.f27
  simp only [vquietR, vopsR, RetC, retW, cellR, undV, vgA, vbinN, vnn, isNilC, isIf, vconvH, vconvO, cvOk, frz1, frzE, jsOk, jsCo, rowsH, vgcH, vgH, vopsT, stepE, Kseq_app, vg_skip, vg_label, vg_seq, vg_region, vg_cond, vg_block, vg_exit, vg_ret, vg_loop, vcallF, vcallH, uls, HdelK, memN, noBox, ninL, keysH, jsAt, AdSub, adopt, noEl, isNil, effL, effO, vopsD, vquiet, vfstD, ldq, ldOk, vops, vfst, vone, vact, ug, addL, vbox, valloc, vstore, vbuild, vbuildSlice, vappend, vmake, zeroS, zeroE, vstrB, apC, nrm, nr1, nrL, keyL, neqs, diffs, V.app, V.len, vsrc, vdst, mkSl, mkBy, inOrd, placeAll, V.one, V.sto, V.csize, V.parts, V.cellsL, setMany, V.setB, V.setE, V.setO, V.noOwn, V.isOwn, vq, vcall, fzA, fz, fz1, fzL, fzN, rts, rt1, V.er, er1, er2, mixA, mixK, uargs, u1, R.add, vop, vbin, vint2, vstr2, vbool2, vnum, vun, vpick, vpick1, vbool, vconv, vnil, vfieldAddr, vindexAddr, vindex, vload, vfield, aggD, vslice, bnd, uopt, vlen, vmin, vextract, Hpk, Hroot, refV, ownR, V.i, V.elems, V.cell, V.cut, V.exact, V.ex0, exL, V.cl, clL, V.sc, scL, scO, scH, V.ct, ct1, ct2, RetP, RetK, RetH, retL, retOne, Back, Veq, subH, obs, obsIf, En.get, En.put, En.ev, enOf, gcond, wantB, constV, exGet, subE, Sub, RV, RVL, NR, RO, subER, subHR, newLt, oldNe, oldOk, oldGe, notIn, ivN, lookN, SubR, Nm.root, Nat.reduceMul, Nat.reduceLeDiff, Nat.reduceEqDiff, Nat.reduceLT, Nat.reduceAdd, Nat.reduceSub, ↓reduceIte, implies_true, reduceCtorEq, ne_eq, ↓shr_eq, IntKind.bits, Int.reduceToNat, Int.reducePow, dite_eq_ite, Value.oneCell', Nat.reduceBEq, Nat.reduceDiv, sd, nm, ty, tlsV, tlvD, tloV, tlvOD, tb, GZ, G0f, GZh]
  refine ⟨hl, hd, fun _ => ⟨by rw [mkd_len]; exact hl, mkd_data hd, fun _ => ⟨by rw [mkd_len, mkd_len]; exact hl, mkd_data (mkd_data hd), RenC.skip ?_⟩, fun h => h.elim⟩, fun h => h.elim⟩
  simp only [vquietR, vopsR, RetC, retW, cellR, undV, vgA, vbinN, vnn, isNilC, isIf, vconvH, vconvO, cvOk, frz1, frzE, jsOk, jsCo, rowsH, vgcH, vgH, vopsT, stepE, Kseq_app, vg_skip, vg_label, vg_seq, vg_region, vg_cond, vg_block, vg_exit, vg_ret, vg_loop, vcallF, vcallH, uls, HdelK, memN, noBox, ninL, keysH, jsAt, AdSub, adopt, noEl, isNil, effL, effO, vopsD, vquiet, vfstD, ldq, ldOk, vops, vfst, vone, vact, ug, addL, vbox, valloc, vstore, vbuild, vbuildSlice, vappend, vmake, zeroS, zeroE, vstrB, apC, nrm, nr1, nrL, keyL, neqs, diffs, V.app, V.len, vsrc, vdst, mkSl, mkBy, inOrd, placeAll, V.one, V.sto, V.csize, V.parts, V.cellsL, setMany, V.setB, V.setE, V.setO, V.noOwn, V.isOwn, vq, vcall, fzA, fz, fz1, fzL, fzN, rts, rt1, V.er, er1, er2, mixA, mixK, uargs, u1, R.add, vop, vbin, vint2, vstr2, vbool2, vnum, vun, vpick, vpick1, vbool, vconv, vnil, vfieldAddr, vindexAddr, vindex, vload, vfield, aggD, vslice, bnd, uopt, vlen, vmin, vextract, Hpk, Hroot, refV, ownR, V.i, V.elems, V.cell, V.cut, V.exact, V.ex0, exL, V.cl, clL, V.sc, scL, scO, scH, V.ct, ct1, ct2, RetP, RetK, RetH, retL, retOne, Back, Veq, subH, obs, obsIf, En.get, En.put, En.ev, enOf, gcond, wantB, constV, exGet, subE, Sub, RV, RVL, NR, RO, subER, subHR, newLt, oldNe, oldOk, oldGe, notIn, ivN, lookN, SubR, Nm.root, Nat.reduceMul, Nat.reduceLeDiff, Nat.reduceEqDiff, Nat.reduceLT, Nat.reduceAdd, Nat.reduceSub, ↓reduceIte, implies_true, reduceCtorEq, ne_eq, ↓shr_eq, IntKind.bits, Int.reduceToNat, Int.reducePow, dite_eq_ite, Value.oneCell', Nat.reduceBEq, Nat.reduceDiv, sd, nm, ty, tlsV, tlvD, tloV, tlvOD, tb]
  exact Nat.le_refl _
end Go.Proofs.YtelaolingpbnfaaDoor
