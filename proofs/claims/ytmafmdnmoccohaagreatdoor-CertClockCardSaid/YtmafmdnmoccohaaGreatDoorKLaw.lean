/- CertClock: the law. -/
import Derived.Test.YtmafmdnmoccohaaGreatDoorKRp
import Derived.Test.YtmafmdnmoccohaaGreatDoorKPro
import Derived.Test.YtmafmdnmoccohaaGreatDoorKCal
import Derived.Test.YtmafmdnmoccohaaGreatDoorKTlv
namespace Go.Proofs.YtmafmdnmoccohaaGreatDoor
open Go.RowKit
set_option linter.unusedSimpArgs false
set_option maxRecDepth 100000
theorem Parse_bad_fn : Fn Tryz.prog JC 11 false [.by [48, 0]] (.tu [cert0, .i 230]) := Fn.of_plain Parse_bad rfl
theorem Sec_fn (tag : Int) (l : List UInt8) (kids : Int) (hl : l.length ≤ 140737488355328) : Fn Tryz.prog JC 6 false [tlvC tag l kids] (.tu [.i (secF tag l kids).1, .bb (secF tag l kids).2]) := Fn.of_plain (Sec_own tag l kids hl) rfl
def GSf : FuncId → List V → Option (List Prop × Bool × V) := fun f args =>
  if f = 6 then match args with
    | [.st [.val (.int .i64 tag), .by l, .val (.int .i64 kids)]] => some ([l.length ≤ 140737488355328], false, .tu [.i (secF tag l kids).1, .bb (secF tag l kids).2])
    | _ => none
  else if f = 11 then match args with
    | [.by l] => some ([l = [48, 0]], false, .tu [cert0, .i 230])
    | _ => none
  else none
theorem GSf_ok {f : FuncId} {args : List V} {l : List Prop} {fr : Bool} {r : V} (h : GSf f args = some (l, fr, r)) (hl : AllP l) : Fn Tryz.prog JC f fr args r := by
  unfold GSf at h
  split at h
  · rename_i hf; subst hf
    split at h
    · obtain ⟨rfl, rfl, rfl⟩ := ksome_tri h; exact Sec_fn _ _ _ (hl _ (by simp))
    · exact absurd h (by simp)
  · split at h
    · rename_i hf; subst hf
      split at h
      · rename_i l0
        obtain ⟨rfl, rfl, rfl⟩ := ksome_tri h
        obtain rfl : l0 = [48, 0] := hl (l0 = [48, 0]) (by simp)
        exact Parse_bad_fn
      · exact absurd h (by simp)
    · exact absurd h (by simp)
def GS : Sig := ⟨JC, kdf, GSf, noH, 0⟩
theorem GS_ok : SigOk Tryz.prog GS := .plain fun _ _ _ _ _ h hl => GSf_ok h hl
theorem sec_a : secF 23 [55, 48, 48, 49, 48, 49, 48, 48, 48, 48, 48, 49, 90] 0 = (1, true) := by
  have h := sec_bytes (t := ⟨1970, 1, 1, 0, 0, 1⟩) (by decide)
  have e1 : (Tm.mk 1970 1 1 0 0 1).bytes = [55, 48, 48, 49, 48, 49, 48, 48, 48, 48, 48, 49, 90] := by decide
  have e2 : (Tm.mk 1970 1 1 0 0 1).sec = 1 := by unfold Tm.sec; rw [yr_1970]; decide
  rw [e1, e2] at h; exact h
theorem sec_b : secF 24 [50, 48, 53, 48, 48, 49, 48, 49, 48, 48, 48, 48, 48, 48, 90] 0 = (2524608000, true) := by
  have h := sec_bytes (t := ⟨2050, 1, 1, 0, 0, 0⟩) (by decide)
  have e1 : (Tm.mk 2050 1 1 0 0 0).bytes = [50, 48, 53, 48, 48, 49, 48, 49, 48, 48, 48, 48, 48, 48, 90] := by decide
  have e2 : (Tm.mk 2050 1 1 0 0 0).sec = 2524608000 := by unfold Tm.sec; rw [days_year]; decide
  rw [e1, e2] at h; exact h
theorem sec_c : secF 23 [48, 49, 48, 50, 50, 57, 48, 48, 48, 48, 48, 48, 90] 0 = (0, false) := by
  decide
theorem u8_lits : u8 0 = 0 ∧ u8 48 = 48 ∧ u8 49 = 49 ∧ u8 50 = 50 ∧ u8 51 = 51 ∧ u8 53 = 53 ∧ u8 55 = 55 ∧ u8 57 = 57 ∧ u8 90 = 90 := by decide
theorem started_fn : Fn Tryz.prog JC 4 false [] (.bb true) := by
  refine Fn.of_plain (nx := 100) (post := []) ?_ rfl
  refine fnH_intro Tryz.func4 rfl (by kernel_rfl) (Nat.le_of_ble_eq_true (by kernel_rfl)) (by kernel_rfl) (by kernel_rfl) GS_ok rfl ?_
  unfold Tryz.f4
  simp only [vmark, seqN, sameBox, boxJs, vquietR, vopsR, RetC, retW, cellR, undV, vgA, vbinN, vnn, isNilC, isIf, vconvH, vconvO, cvOk, frz1, frzE, jsOk, jsCo, rowsH, vgcH, vgH, vopsT, stepE, Kseq_app, vg_skip, vg_label, vg_seq, vg_region, vg_cond, vg_block, vg_exit, vg_ret, vg_loop, vcallF, vcallH, uls, HdelK, memN, noBox, ninL, keysH, jsAt, AdSub, adopt, noEl, isNil, effL, effO, vopsD, vquiet, vfstD, ldq, ldOk, vops, vfst, vone, vact, ug, addL, vbox, valloc, vstore, vbuild, arrF, vbuildSlice, vappend, vmake, zeroS, zeroE, vstrB, apC, nrm, nr1, nrL, keyL, neqs, diffs, V.app, V.len, vsrc, vdst, mkSl, mkBy, inOrd, placeAll, V.one, V.sto, V.csize, V.parts, V.cellsL, setMany, V.setB, V.setE, V.setO, V.noOwn, V.isOwn, vq, vcall, fzA, fz, fz1, fzL, fzN, rts, rt1, V.er, er1, er2, mixA, mixK, uargs, u1, R.add, vop, vbin, vint2, vstr2, vbool2, vnum, vun, vpick, vpick1, vbool, vconv, vnil, vfieldAddr, vindexAddr, vstEq, vindex, vload, vfield, aggD, vslice, bnd, uopt, vlen, vmin, vextract, Hpk, Hroot, refV, ownR, V.i, V.elems, V.cell, V.cut, V.exact, V.ex0, exL, V.cl, clL, V.sc, scL, scO, scH, V.ct, ct1, ct2, RetP, RetK, RetH, retL, retOne, Back, Veq, subH, obs, obsIf, En.get, En.put, En.ev, enOf, gcond, wantB, constV, exGet, subE, Sub, RV, RVL, NR, RO, subER, subHR, newLt, oldNe, oldOk, oldGe, notIn, ivN, lookN, SubR, Nm.root, Nat.reduceMul, Nat.reduceLeDiff, Nat.reduceEqDiff, Nat.reduceLT, Nat.reduceAdd, Nat.reduceSub, ↓reduceIte, implies_true, reduceCtorEq, ne_eq, ↓shr_eq, IntKind.bits, Int.reduceToNat, Int.reducePow, dite_eq_ite, Value.oneCell', Nat.reduceBEq, Nat.reduceDiv, bnS, bnN, bnT, tlsV, tlvD, tloV, tlvOD, bnB, GS, GSf, cert0, nilS, u8_lits, sec_a, sec_b, sec_c, coKey, Int.reduceLE, Int.reduceLT, Int.reduceBEq, Int.reduceEq, Int.reduceAdd, Int.reduceSub, Int.reduceToNat]
  refine RenC.skip ?_
  simp only [vmark, seqN, sameBox, boxJs, vquietR, vopsR, RetC, retW, cellR, undV, vgA, vbinN, vnn, isNilC, isIf, vconvH, vconvO, cvOk, frz1, frzE, jsOk, jsCo, rowsH, vgcH, vgH, vopsT, stepE, Kseq_app, vg_skip, vg_label, vg_seq, vg_region, vg_cond, vg_block, vg_exit, vg_ret, vg_loop, vcallF, vcallH, uls, HdelK, memN, noBox, ninL, keysH, jsAt, AdSub, adopt, noEl, isNil, effL, effO, vopsD, vquiet, vfstD, ldq, ldOk, vops, vfst, vone, vact, ug, addL, vbox, valloc, vstore, vbuild, arrF, vbuildSlice, vappend, vmake, zeroS, zeroE, vstrB, apC, nrm, nr1, nrL, keyL, neqs, diffs, V.app, V.len, vsrc, vdst, mkSl, mkBy, inOrd, placeAll, V.one, V.sto, V.csize, V.parts, V.cellsL, setMany, V.setB, V.setE, V.setO, V.noOwn, V.isOwn, vq, vcall, fzA, fz, fz1, fzL, fzN, rts, rt1, V.er, er1, er2, mixA, mixK, uargs, u1, R.add, vop, vbin, vint2, vstr2, vbool2, vnum, vun, vpick, vpick1, vbool, vconv, vnil, vfieldAddr, vindexAddr, vstEq, vindex, vload, vfield, aggD, vslice, bnd, uopt, vlen, vmin, vextract, Hpk, Hroot, refV, ownR, V.i, V.elems, V.cell, V.cut, V.exact, V.ex0, exL, V.cl, clL, V.sc, scL, scO, scH, V.ct, ct1, ct2, RetP, RetK, RetH, retL, retOne, Back, Veq, subH, obs, obsIf, En.get, En.put, En.ev, enOf, gcond, wantB, constV, exGet, subE, Sub, RV, RVL, NR, RO, subER, subHR, newLt, oldNe, oldOk, oldGe, notIn, ivN, lookN, SubR, Nm.root, Nat.reduceMul, Nat.reduceLeDiff, Nat.reduceEqDiff, Nat.reduceLT, Nat.reduceAdd, Nat.reduceSub, ↓reduceIte, implies_true, reduceCtorEq, ne_eq, ↓shr_eq, IntKind.bits, Int.reduceToNat, Int.reducePow, dite_eq_ite, Value.oneCell', Nat.reduceBEq, Nat.reduceDiv, bnS, bnN, bnT, tlsV, tlvD, tloV, tlvOD, bnB, nilS]
def GLf : FuncId → List V → Option (List Prop × Bool × V) := fun f args =>
  if f = 4 then match args with
    | [] => some ([], false, .bb true)
    | _ => none
  else if f = 5 then match args with
    | [.st [.val (.int .i64 y), .val (.int .i64 mo), .val (.int .i64 d), .val (.int .i64 h), .val (.int .i64 mi), .val (.int .i64 s)]] => some ([], false, .bb (decide (Tm.mk y mo d h mi s).real))
    | _ => none
  else if f = 8 then match args with
    | [.st [.val (.int .i64 y), .val (.int .i64 mo), .val (.int .i64 d), .val (.int .i64 h), .val (.int .i64 mi), .val (.int .i64 s)]] => some ([(Tm.mk y mo d h mi s).real], false, .i (Tm.mk y mo d h mi s).sec)
    | _ => none
  else if f = 10 then match args with
    | [.st [.val (.int .i64 y), .val (.int .i64 mo), .val (.int .i64 d), .val (.int .i64 h), .val (.int .i64 mi), .val (.int .i64 s)]] => some ([(Tm.mk y mo d h mi s).real], false, timV (Tm.mk y mo d h mi s).next)
    | _ => none
  else if f = 9 then match args with
    | [.st [.val (.int .i64 y), .val (.int .i64 mo), .val (.int .i64 d), .val (.int .i64 h), .val (.int .i64 mi), .val (.int .i64 s)], .st [.val (.int .i64 y'), .val (.int .i64 mo'), .val (.int .i64 d'), .val (.int .i64 h'), .val (.int .i64 mi'), .val (.int .i64 s')]] => some ([], false, .bb (befF (Tm.mk y mo d h mi s).list (Tm.mk y' mo' d' h' mi' s').list))
    | _ => none
  else GSf f args
def GLh : FuncId → List V → List (Nat × Ob) → Nat → Option CallH := fun f args _ nx =>
  if f = 7 then match args with
    | [.st [.val (.int .i64 y), .val (.int .i64 mo), .val (.int .i64 d), .val (.int .i64 h), .val (.int .i64 mi), .val (.int .i64 s)]] => some ⟨[(Tm.mk y mo d h mi s).real], [], [], .st [.i (Tm.mk y mo d h mi s).tag, .ro (.r (nx + 1)), .i 0], [(nx + 1, .row 5 (.by (Tm.mk y mo d h mi s).bytes))], nx + 2⟩
    | _ => none
  else none
def GL : Sig := ⟨JC, kdf, GLf, GLh, 0⟩
theorem GL_ok : SigOk Tryz.prog GL := by
  refine ⟨fun f args l fr r h hl => ?_, fun f args h nx c hc hl => ?_⟩
  · change GLf f args = some (l, fr, r) at h
    unfold GLf at h
    split at h
    · rename_i hf; subst hf
      split at h
      · obtain ⟨rfl, rfl, rfl⟩ := ksome_tri h; exact started_fn
      · exact absurd h (by simp)
    · split at h
      · rename_i hf; subst hf
        split at h
        · obtain ⟨rfl, rfl, rfl⟩ := ksome_tri h; exact real_fn ⟨_, _, _, _, _, _⟩
        · exact absurd h (by simp)
      · split at h
        · rename_i hf; subst hf
          split at h
          · obtain ⟨rfl, rfl, rfl⟩ := ksome_tri h; exact seconds_fn ⟨_, _, _, _, _, _⟩ (hl _ (List.mem_cons_self ..))
          · exact absurd h (by simp)
        · split at h
          · rename_i hf; subst hf
            split at h
            · obtain ⟨rfl, rfl, rfl⟩ := ksome_tri h; exact Fn.of_plain (next_own ⟨_, _, _, _, _, _⟩ (hl _ (List.mem_cons_self ..))) rfl
            · exact absurd h (by simp)
          · split at h
            · rename_i hf; subst hf
              split at h
              · obtain ⟨rfl, rfl, rfl⟩ := ksome_tri h; exact before_fn ⟨_, _, _, _, _, _⟩ ⟨_, _, _, _, _, _⟩
              · exact absurd h (by simp)
            · exact GSf_ok h hl
  · change GLh f args h nx = some c at hc
    unfold GLh at hc
    split at hc
    · rename_i hf; subst hf
      split at hc
      · obtain rfl := Option.some.inj hc
        exact tlv_own ⟨_, _, _, _, _, _⟩ (hl _ (List.mem_cons_self ..)) nx
      · cases hc
    · cases hc
theorem CertClock_nn {y mo d h mi s : Int} (b : Tm) (ha : ¬ (Tm.mk y mo d h mi s).real) : Fn Tryz.prog JC 3 false [timV (Tm.mk y mo d h mi s), timV b] (.bb true) := by
  have ha' : decide (Tm.mk y mo d h mi s).real = false := decide_eq_false ha
  obtain ⟨y', mo', d', h', mi', s'⟩ := b
  refine Fn.of_plain (nx := 100) (post := []) ?_ rfl
  refine fnH_intro Tryz.func3 rfl (by kernel_rfl) (Nat.le_of_ble_eq_true (by kernel_rfl)) (by kernel_rfl) (by kernel_rfl) GL_ok rfl ?_
  unfold Tryz.f3
  simp only [vmark, seqN, sameBox, boxJs, vquietR, vopsR, RetC, retW, cellR, undV, vgA, vbinN, vnn, isNilC, isIf, vconvH, vconvO, cvOk, frz1, frzE, jsOk, jsCo, rowsH, vgcH, vgH, vopsT, stepE, Kseq_app, vg_skip, vg_label, vg_seq, vg_region, vg_cond, vg_block, vg_exit, vg_ret, vg_loop, vcallF, vcallH, uls, HdelK, memN, noBox, ninL, keysH, jsAt, AdSub, adopt, noEl, isNil, effL, effO, vopsD, vquiet, vfstD, ldq, ldOk, vops, vfst, vone, vact, ug, addL, vbox, valloc, vstore, vbuild, arrF, vbuildSlice, vappend, vmake, zeroS, zeroE, vstrB, apC, nrm, nr1, nrL, keyL, neqs, diffs, V.app, V.len, vsrc, vdst, mkSl, mkBy, inOrd, placeAll, V.one, V.sto, V.csize, V.parts, V.cellsL, setMany, V.setB, V.setE, V.setO, V.noOwn, V.isOwn, vq, vcall, fzA, fz, fz1, fzL, fzN, rts, rt1, V.er, er1, er2, mixA, mixK, uargs, u1, R.add, vop, vbin, vint2, vstr2, vbool2, vnum, vun, vpick, vpick1, vbool, vconv, vnil, vfieldAddr, vindexAddr, vstEq, vindex, vload, vfield, aggD, vslice, bnd, uopt, vlen, vmin, vextract, Hpk, Hroot, refV, ownR, V.i, V.elems, V.cell, V.cut, V.exact, V.ex0, exL, V.cl, clL, V.sc, scL, scO, scH, V.ct, ct1, ct2, RetP, RetK, RetH, retL, retOne, Back, Veq, subH, obs, obsIf, En.get, En.put, En.ev, enOf, gcond, wantB, constV, exGet, subE, Sub, RV, RVL, NR, RO, subER, subHR, newLt, oldNe, oldOk, oldGe, notIn, ivN, lookN, SubR, Nm.root, Nat.reduceMul, Nat.reduceLeDiff, Nat.reduceEqDiff, Nat.reduceLT, Nat.reduceAdd, Nat.reduceSub, ↓reduceIte, implies_true, reduceCtorEq, ne_eq, ↓shr_eq, IntKind.bits, Int.reduceToNat, Int.reducePow, dite_eq_ite, Value.oneCell', Nat.reduceBEq, Nat.reduceDiv, bnS, bnN, bnT, tlsV, tlvD, tloV, tlvOD, bnB, GL, GLf, GLh, GSf, timV, ha', coKey, Int.reduceLE, Int.reduceLT, Int.reduceBEq, Int.reduceEq, Int.reduceAdd, Int.reduceSub, Int.reduceToNat]
  refine ⟨(fun h => by cases h), fun _ => ⟨fun _ => RenC.skip ?_, (fun h => by cases h)⟩⟩
  simp only [vmark, seqN, sameBox, boxJs, vquietR, vopsR, RetC, retW, cellR, undV, vgA, vbinN, vnn, isNilC, isIf, vconvH, vconvO, cvOk, frz1, frzE, jsOk, jsCo, rowsH, vgcH, vgH, vopsT, stepE, Kseq_app, vg_skip, vg_label, vg_seq, vg_region, vg_cond, vg_block, vg_exit, vg_ret, vg_loop, vcallF, vcallH, uls, HdelK, memN, noBox, ninL, keysH, jsAt, AdSub, adopt, noEl, isNil, effL, effO, vopsD, vquiet, vfstD, ldq, ldOk, vops, vfst, vone, vact, ug, addL, vbox, valloc, vstore, vbuild, arrF, vbuildSlice, vappend, vmake, zeroS, zeroE, vstrB, apC, nrm, nr1, nrL, keyL, neqs, diffs, V.app, V.len, vsrc, vdst, mkSl, mkBy, inOrd, placeAll, V.one, V.sto, V.csize, V.parts, V.cellsL, setMany, V.setB, V.setE, V.setO, V.noOwn, V.isOwn, vq, vcall, fzA, fz, fz1, fzL, fzN, rts, rt1, V.er, er1, er2, mixA, mixK, uargs, u1, R.add, vop, vbin, vint2, vstr2, vbool2, vnum, vun, vpick, vpick1, vbool, vconv, vnil, vfieldAddr, vindexAddr, vstEq, vindex, vload, vfield, aggD, vslice, bnd, uopt, vlen, vmin, vextract, Hpk, Hroot, refV, ownR, V.i, V.elems, V.cell, V.cut, V.exact, V.ex0, exL, V.cl, clL, V.sc, scL, scO, scH, V.ct, ct1, ct2, RetP, RetK, RetH, retL, retOne, Back, Veq, subH, obs, obsIf, En.get, En.put, En.ev, enOf, gcond, wantB, constV, exGet, subE, Sub, RV, RVL, NR, RO, subER, subHR, newLt, oldNe, oldOk, oldGe, notIn, ivN, lookN, SubR, Nm.root, Nat.reduceMul, Nat.reduceLeDiff, Nat.reduceEqDiff, Nat.reduceLT, Nat.reduceAdd, Nat.reduceSub, ↓reduceIte, implies_true, reduceCtorEq, ne_eq, ↓shr_eq, IntKind.bits, Int.reduceToNat, Int.reducePow, dite_eq_ite, Value.oneCell', Nat.reduceBEq, Nat.reduceDiv, bnS, bnN, bnT, tlsV, tlvD, tloV, tlvOD, bnB]
theorem CertClock_yn {y mo d h mi s y' mo' d' h' mi' s' : Int} (ha : (Tm.mk y mo d h mi s).real) (hb : ¬ (Tm.mk y' mo' d' h' mi' s').real) : Fn Tryz.prog JC 3 false [timV (Tm.mk y mo d h mi s), timV (Tm.mk y' mo' d' h' mi' s')] (.bb true) := by
  have ha' : decide (Tm.mk y mo d h mi s).real = true := decide_eq_true ha
  have hb' : decide (Tm.mk y' mo' d' h' mi' s').real = false := decide_eq_false hb
  refine Fn.of_plain (nx := 100) (post := []) ?_ rfl
  refine fnH_intro Tryz.func3 rfl (by kernel_rfl) (Nat.le_of_ble_eq_true (by kernel_rfl)) (by kernel_rfl) (by kernel_rfl) GL_ok rfl ?_
  unfold Tryz.f3
  simp only [vmark, seqN, sameBox, boxJs, vquietR, vopsR, RetC, retW, cellR, undV, vgA, vbinN, vnn, isNilC, isIf, vconvH, vconvO, cvOk, frz1, frzE, jsOk, jsCo, rowsH, vgcH, vgH, vopsT, stepE, Kseq_app, vg_skip, vg_label, vg_seq, vg_region, vg_cond, vg_block, vg_exit, vg_ret, vg_loop, vcallF, vcallH, uls, HdelK, memN, noBox, ninL, keysH, jsAt, AdSub, adopt, noEl, isNil, effL, effO, vopsD, vquiet, vfstD, ldq, ldOk, vops, vfst, vone, vact, ug, addL, vbox, valloc, vstore, vbuild, arrF, vbuildSlice, vappend, vmake, zeroS, zeroE, vstrB, apC, nrm, nr1, nrL, keyL, neqs, diffs, V.app, V.len, vsrc, vdst, mkSl, mkBy, inOrd, placeAll, V.one, V.sto, V.csize, V.parts, V.cellsL, setMany, V.setB, V.setE, V.setO, V.noOwn, V.isOwn, vq, vcall, fzA, fz, fz1, fzL, fzN, rts, rt1, V.er, er1, er2, mixA, mixK, uargs, u1, R.add, vop, vbin, vint2, vstr2, vbool2, vnum, vun, vpick, vpick1, vbool, vconv, vnil, vfieldAddr, vindexAddr, vstEq, vindex, vload, vfield, aggD, vslice, bnd, uopt, vlen, vmin, vextract, Hpk, Hroot, refV, ownR, V.i, V.elems, V.cell, V.cut, V.exact, V.ex0, exL, V.cl, clL, V.sc, scL, scO, scH, V.ct, ct1, ct2, RetP, RetK, RetH, retL, retOne, Back, Veq, subH, obs, obsIf, En.get, En.put, En.ev, enOf, gcond, wantB, constV, exGet, subE, Sub, RV, RVL, NR, RO, subER, subHR, newLt, oldNe, oldOk, oldGe, notIn, ivN, lookN, SubR, Nm.root, Nat.reduceMul, Nat.reduceLeDiff, Nat.reduceEqDiff, Nat.reduceLT, Nat.reduceAdd, Nat.reduceSub, ↓reduceIte, implies_true, reduceCtorEq, ne_eq, ↓shr_eq, IntKind.bits, Int.reduceToNat, Int.reducePow, dite_eq_ite, Value.oneCell', Nat.reduceBEq, Nat.reduceDiv, bnS, bnN, bnT, tlsV, tlvD, tloV, tlvOD, bnB, GL, GLf, GLh, GSf, timV, ha', hb', coKey, Int.reduceLE, Int.reduceLT, Int.reduceBEq, Int.reduceEq, Int.reduceAdd, Int.reduceSub, Int.reduceToNat]
  refine ⟨(fun h => by cases h), fun _ => ⟨fun _ => RenC.skip ?_, (fun h => by cases h)⟩⟩
  simp only [vmark, seqN, sameBox, boxJs, vquietR, vopsR, RetC, retW, cellR, undV, vgA, vbinN, vnn, isNilC, isIf, vconvH, vconvO, cvOk, frz1, frzE, jsOk, jsCo, rowsH, vgcH, vgH, vopsT, stepE, Kseq_app, vg_skip, vg_label, vg_seq, vg_region, vg_cond, vg_block, vg_exit, vg_ret, vg_loop, vcallF, vcallH, uls, HdelK, memN, noBox, ninL, keysH, jsAt, AdSub, adopt, noEl, isNil, effL, effO, vopsD, vquiet, vfstD, ldq, ldOk, vops, vfst, vone, vact, ug, addL, vbox, valloc, vstore, vbuild, arrF, vbuildSlice, vappend, vmake, zeroS, zeroE, vstrB, apC, nrm, nr1, nrL, keyL, neqs, diffs, V.app, V.len, vsrc, vdst, mkSl, mkBy, inOrd, placeAll, V.one, V.sto, V.csize, V.parts, V.cellsL, setMany, V.setB, V.setE, V.setO, V.noOwn, V.isOwn, vq, vcall, fzA, fz, fz1, fzL, fzN, rts, rt1, V.er, er1, er2, mixA, mixK, uargs, u1, R.add, vop, vbin, vint2, vstr2, vbool2, vnum, vun, vpick, vpick1, vbool, vconv, vnil, vfieldAddr, vindexAddr, vstEq, vindex, vload, vfield, aggD, vslice, bnd, uopt, vlen, vmin, vextract, Hpk, Hroot, refV, ownR, V.i, V.elems, V.cell, V.cut, V.exact, V.ex0, exL, V.cl, clL, V.sc, scL, scO, scH, V.ct, ct1, ct2, RetP, RetK, RetH, retL, retOne, Back, Veq, subH, obs, obsIf, En.get, En.put, En.ev, enOf, gcond, wantB, constV, exGet, subE, Sub, RV, RVL, NR, RO, subER, subHR, newLt, oldNe, oldOk, oldGe, notIn, ivN, lookN, SubR, Nm.root, Nat.reduceMul, Nat.reduceLeDiff, Nat.reduceEqDiff, Nat.reduceLT, Nat.reduceAdd, Nat.reduceSub, ↓reduceIte, implies_true, reduceCtorEq, ne_eq, ↓shr_eq, IntKind.bits, Int.reduceToNat, Int.reducePow, dite_eq_ite, Value.oneCell', Nat.reduceBEq, Nat.reduceDiv, bnS, bnN, bnT, tlsV, tlvD, tloV, tlvOD, bnB]
theorem bytes_len (t : Tm) : t.bytes.length ≤ 140737488355328 := by
  have h1 : ∀ a b c d e : Int, (tailB a b c d e).length = 11 := fun _ _ _ _ _ => rfl
  unfold Tm.bytes
  rw [List.length_append, List.length_append, dig2_len, h1]
  split
  · rw [dig2_len]; omega
  · simp
theorem tm_eta (t : Tm) : Tm.mk t.y t.mo t.d t.h t.mi t.s = t := rfl
theorem fnames : (("Year" = "_") = False) ∧ (("Month" = "_") = False) ∧ (("Day" = "_") = False) ∧ (("Hour" = "_") = False) ∧ (("Minute" = "_") = False) ∧ (("Second" = "_") = False) := by decide
theorem stood : Tryz.prog.stoodInHeld 23 = false := by kernel_rfl
theorem guarded : Tryz.prog.eqGuardType Tryz.prog.depth 23 = false := by kernel_rfl
theorem CertClock_yy {y mo d h mi s y' mo' d' h' mi' s' : Int} (ha : (Tm.mk y mo d h mi s).real) (hb : (Tm.mk y' mo' d' h' mi' s').real) : Fn Tryz.prog JC 3 false [timV (Tm.mk y mo d h mi s), timV (Tm.mk y' mo' d' h' mi' s')] (.bb true) := by
  have ha' : decide (Tm.mk y mo d h mi s).real = true := decide_eq_true ha
  have hb' : decide (Tm.mk y' mo' d' h' mi' s').real = true := decide_eq_true hb
  have ka := sec_bytes ha
  have kb := sec_bytes hb
  have la := bytes_len (Tm.mk y mo d h mi s)
  have lb := bytes_len (Tm.mk y' mo' d' h' mi' s')
  have e1 : (decide ((Tm.mk y mo d h mi s).sec < (Tm.mk y' mo' d' h' mi' s').sec)) = befF (Tm.mk y mo d h mi s).list (Tm.mk y' mo' d' h' mi' s').list := sec_lt ha hb
  have e2 : (decide (y = y') && (decide (mo = mo') && (decide (d = d') && (decide (h = h') && (decide (mi = mi') && decide (s = s')))))) = ((Tm.mk y mo d h mi s).sec == (Tm.mk y' mo' d' h' mi' s').sec) := by
    rw [Bool.eq_iff_iff]
    simp only [Bool.and_eq_true, decide_eq_true_eq, beq_iff_eq]
    rw [sec_eq ha hb]
    simp only [Tm.list, List.cons.injEq, and_true]
  refine Fn.of_plain (nx := 100) (post := []) ?_ rfl
  refine fnH_intro Tryz.func3 rfl (by kernel_rfl) (Nat.le_of_ble_eq_true (by kernel_rfl)) (by kernel_rfl) (by kernel_rfl) GL_ok rfl ?_
  unfold Tryz.f3
  simp only [vmark, seqN, sameBox, boxJs, vquietR, vopsR, RetC, retW, cellR, undV, vgA, vbinN, vnn, isNilC, isIf, vconvH, vconvO, cvOk, frz1, frzE, jsOk, jsCo, rowsH, vgcH, vgH, vopsT, stepE, Kseq_app, vg_skip, vg_label, vg_seq, vg_region, vg_cond, vg_block, vg_exit, vg_ret, vg_loop, vcallF, vcallH, uls, HdelK, memN, noBox, ninL, keysH, jsAt, AdSub, adopt, noEl, isNil, effL, effO, vopsD, vquiet, vfstD, ldq, ldOk, vops, vfst, vone, vact, ug, addL, vbox, valloc, vstore, vbuild, arrF, vbuildSlice, vappend, vmake, zeroS, zeroE, vstrB, apC, nrm, nr1, nrL, keyL, neqs, diffs, V.app, V.len, vsrc, vdst, mkSl, mkBy, inOrd, placeAll, V.one, V.sto, V.csize, V.parts, V.cellsL, setMany, V.setB, V.setE, V.setO, V.noOwn, V.isOwn, vq, vcall, fzA, fz, fz1, fzL, fzN, rts, rt1, V.er, er1, er2, mixA, mixK, uargs, u1, R.add, vop, vbin, vint2, vstr2, vbool2, vnum, vun, vpick, vpick1, vbool, vconv, vnil, vfieldAddr, vindexAddr, vstEq, vindex, vload, vfield, aggD, vslice, bnd, uopt, vlen, vmin, vextract, Hpk, Hroot, refV, ownR, V.i, V.elems, V.cell, V.cut, V.exact, V.ex0, exL, V.cl, clL, V.sc, scL, scO, scH, V.ct, ct1, ct2, RetP, RetK, RetH, retL, retOne, Back, Veq, subH, obs, obsIf, En.get, En.put, En.ev, enOf, gcond, wantB, constV, exGet, subE, Sub, RV, RVL, NR, RO, subER, subHR, newLt, oldNe, oldOk, oldGe, notIn, ivN, lookN, SubR, Nm.root, Nat.reduceMul, Nat.reduceLeDiff, Nat.reduceEqDiff, Nat.reduceLT, Nat.reduceAdd, Nat.reduceSub, ↓reduceIte, implies_true, reduceCtorEq, ne_eq, ↓shr_eq, IntKind.bits, Int.reduceToNat, Int.reducePow, dite_eq_ite, Value.oneCell', Nat.reduceBEq, Nat.reduceDiv, bnS, bnN, bnT, tlsV, tlvD, tloV, tlvOD, bnB, GL, GLf, GLh, GSf, timV, ha', hb', ha, hb, ka, kb, la, lb, fnames, stood, guarded, e1, e2, tm_eta, coKey, Int.reduceLE, Int.reduceLT, Int.reduceBEq, Int.reduceEq, Int.reduceAdd, Int.reduceSub, Int.reduceToNat]
  refine ⟨(fun h => by cases h), fun _ => ⟨(fun h => by cases h), fun _ => ⟨(fun h => by cases h), fun _ => ?_⟩⟩⟩
  have lc := bytes_len (Tm.mk y mo d h mi s).next
  have kn := sec_next ha
  generalize (Tm.mk y mo d h mi s).next = c at *
  have rs : -100000000000 ≤ (Tm.mk y mo d h mi s).sec ∧ (Tm.mk y mo d h mi s).sec ≤ 400000000000 := by
    have hr := ha
    simp only [Tm.real] at hr
    have hm := monF_range y mo
    have hd := daysF_range y mo 1 (by omega) (by omega) (by omega) (by omega) (by omega) (by omega)
    unfold Tm.sec
    simp only
    omega
  refine ⟨fun _ => RenC.skip ?_, fun hr => ?_⟩
  · simp only [vmark, seqN, sameBox, boxJs, vquietR, vopsR, RetC, retW, cellR, undV, vgA, vbinN, vnn, isNilC, isIf, vconvH, vconvO, cvOk, frz1, frzE, jsOk, jsCo, rowsH, vgcH, vgH, vopsT, stepE, Kseq_app, vg_skip, vg_label, vg_seq, vg_region, vg_cond, vg_block, vg_exit, vg_ret, vg_loop, vcallF, vcallH, uls, HdelK, memN, noBox, ninL, keysH, jsAt, AdSub, adopt, noEl, isNil, effL, effO, vopsD, vquiet, vfstD, ldq, ldOk, vops, vfst, vone, vact, ug, addL, vbox, valloc, vstore, vbuild, arrF, vbuildSlice, vappend, vmake, zeroS, zeroE, vstrB, apC, nrm, nr1, nrL, keyL, neqs, diffs, V.app, V.len, vsrc, vdst, mkSl, mkBy, inOrd, placeAll, V.one, V.sto, V.csize, V.parts, V.cellsL, setMany, V.setB, V.setE, V.setO, V.noOwn, V.isOwn, vq, vcall, fzA, fz, fz1, fzL, fzN, rts, rt1, V.er, er1, er2, mixA, mixK, uargs, u1, R.add, vop, vbin, vint2, vstr2, vbool2, vnum, vun, vpick, vpick1, vbool, vconv, vnil, vfieldAddr, vindexAddr, vstEq, vindex, vload, vfield, aggD, vslice, bnd, uopt, vlen, vmin, vextract, Hpk, Hroot, refV, ownR, V.i, V.elems, V.cell, V.cut, V.exact, V.ex0, exL, V.cl, clL, V.sc, scL, scO, scH, V.ct, ct1, ct2, RetP, RetK, RetH, retL, retOne, Back, Veq, subH, obs, obsIf, En.get, En.put, En.ev, enOf, gcond, wantB, constV, exGet, subE, Sub, RV, RVL, NR, RO, subER, subHR, newLt, oldNe, oldOk, oldGe, notIn, ivN, lookN, SubR, Nm.root, Nat.reduceMul, Nat.reduceLeDiff, Nat.reduceEqDiff, Nat.reduceLT, Nat.reduceAdd, Nat.reduceSub, ↓reduceIte, implies_true, reduceCtorEq, ne_eq, ↓shr_eq, IntKind.bits, Int.reduceToNat, Int.reducePow, dite_eq_ite, Value.oneCell', Nat.reduceBEq, Nat.reduceDiv, bnS, bnN, bnT, tlsV, tlvD, tloV, tlvOD, bnB]
  · have hc : c.real := by simpa using hr
    have kc := sec_bytes hc
    simp only [kc, kn]
    refine ⟨hc, lc, fun _ => by constructor <;> omega, RenC.skip ?_⟩
    simp only [vmark, seqN, sameBox, boxJs, vquietR, vopsR, RetC, retW, cellR, undV, vgA, vbinN, vnn, isNilC, isIf, vconvH, vconvO, cvOk, frz1, frzE, jsOk, jsCo, rowsH, vgcH, vgH, vopsT, stepE, Kseq_app, vg_skip, vg_label, vg_seq, vg_region, vg_cond, vg_block, vg_exit, vg_ret, vg_loop, vcallF, vcallH, uls, HdelK, memN, noBox, ninL, keysH, jsAt, AdSub, adopt, noEl, isNil, effL, effO, vopsD, vquiet, vfstD, ldq, ldOk, vops, vfst, vone, vact, ug, addL, vbox, valloc, vstore, vbuild, arrF, vbuildSlice, vappend, vmake, zeroS, zeroE, vstrB, apC, nrm, nr1, nrL, keyL, neqs, diffs, V.app, V.len, vsrc, vdst, mkSl, mkBy, inOrd, placeAll, V.one, V.sto, V.csize, V.parts, V.cellsL, setMany, V.setB, V.setE, V.setO, V.noOwn, V.isOwn, vq, vcall, fzA, fz, fz1, fzL, fzN, rts, rt1, V.er, er1, er2, mixA, mixK, uargs, u1, R.add, vop, vbin, vint2, vstr2, vbool2, vnum, vun, vpick, vpick1, vbool, vconv, vnil, vfieldAddr, vindexAddr, vstEq, vindex, vload, vfield, aggD, vslice, bnd, uopt, vlen, vmin, vextract, Hpk, Hroot, refV, ownR, V.i, V.elems, V.cell, V.cut, V.exact, V.ex0, exL, V.cl, clL, V.sc, scL, scO, scH, V.ct, ct1, ct2, RetP, RetK, RetH, retL, retOne, Back, Veq, subH, obs, obsIf, En.get, En.put, En.ev, enOf, gcond, wantB, constV, exGet, subE, Sub, RV, RVL, NR, RO, subER, subHR, newLt, oldNe, oldOk, oldGe, notIn, ivN, lookN, SubR, Nm.root, Nat.reduceMul, Nat.reduceLeDiff, Nat.reduceEqDiff, Nat.reduceLT, Nat.reduceAdd, Nat.reduceSub, ↓reduceIte, implies_true, reduceCtorEq, ne_eq, ↓shr_eq, IntKind.bits, Int.reduceToNat, Int.reducePow, dite_eq_ite, Value.oneCell', Nat.reduceBEq, Nat.reduceDiv, bnS, bnN, bnT, tlsV, tlvD, tloV, tlvOD, bnB]
theorem CertClock_fn (a b : Tm) : Fn Tryz.prog JC 3 false [timV a, timV b] (.bb true) := by
  obtain ⟨y, mo, d, h, mi, s⟩ := a
  by_cases ha : (Tm.mk y mo d h mi s).real
  · obtain ⟨y', mo', d', h', mi', s'⟩ := b
    by_cases hb : (Tm.mk y' mo' d' h' mi' s').real
    · exact CertClock_yy ha hb
    · exact CertClock_yn ha hb
  · exact CertClock_nn b ha
end Go.Proofs.YtmafmdnmoccohaaGreatDoor
