/- The document's UTF-8: the walks; it is the library's. -/
import Derived.Test.YtbjfhnbgiajnjaaDoorJRef1
import Derived.Test.YtbjfhnbgiajnjaaDoorWrc
namespace Go.Proofs.YtbjfhnbgiajnjaaDoor
open Go.RowKit
set_option linter.unusedSimpArgs false
set_option maxRecDepth 100000
def bndF (c : Int) : Int × Int × Int :=
  if c < 194 ∨ 244 < c then (-1, 0, 0) else if c < 224 then (1, 128, 191) else if c = 224 then (2, 160, 191) else if c = 237 then (2, 128, 159)
  else if c < 240 then (2, 128, 191) else if c = 240 then (3, 144, 191) else if c = 244 then (3, 128, 143) else (3, 128, 191)
theorem bndF_n (c : Int) : (bndF c).1 = -1 ∨ (1 ≤ (bndF c).1 ∧ (bndF c).1 ≤ 3) := by
  unfold bndF
  repeat' split
  all_goals simp
theorem bounds_fn (J : Inv) (c : Int) : Fn Tryd.prog J 34 false [.i c] (.tu [.i (bndF c).1, .i (bndF c).2.1, .i (bndF c).2.2]) := by
  refine fn_intro Tryd.func34 rfl (by kernel_rfl) (Nat.le_of_ble_eq_true (by kernel_rfl)) (by kernel_rfl) (by kernel_rfl) rfl (J0_ok J) ?_
  unfold Tryd.f34
  simp only [eqC, vlook, vmark, seqN, sameBox, boxJs, vquietR, vopsR, RetC, retW, cellR, undV, vgA, vbinN, vnn, isNilC, isIf, vconvH, vconvO, cvOk, frz1, frzE, jsOk, jsCo, rowsH, vgcH, vgH, vopsT, stepE, Kseq_app, vg_skip, vg_label, vg_seq, vg_region, vg_cond, vg_block, vg_exit, vg_ret, vg_loop, vcallF, vcallH, uls, HdelK, memN, noBox, ninL, keysH, jsAt, AdSub, adopt, noEl, isNil, effL, effO, vopsD, vquiet, vfstD, ldq, ldOk, vops, vfst, vone, vact, ug, addL, vbox, valloc, vstore, vbuild, arrF, vbuildSlice, vappend, vmake, zeroS, zeroE, vstrB, apC, nrm, nr1, nrL, keyL, neqs, diffs, V.app, V.len, vsrc, vdst, mkSl, mkBy, inOrd, placeAll, V.one, V.sto, V.csize, V.parts, V.cellsL, setMany, V.setB, V.setE, V.setO, V.noOwn, V.isOwn, vq, vcall, fzA, fz, fz1, fzL, fzN, rts, rt1, V.er, er1, er2, mixA, mixK, uargs, u1, R.add, vop, vbin, vint2, vstr2, vbool2, vnum, vun, vpick, vpick1, vbool, vconv, vnil, vfieldAddr, vindexAddr, vstEq, vindex, vload, vfield, aggD, vslice, bnd, uopt, vlen, vmin, vextract, Hpk, Hroot, refV, ownR, V.i, V.elems, V.cell, V.cut, V.exact, V.ex0, exL, V.cl, clL, V.sc, scL, scO, scH, V.ct, ct1, ct2, RetP, RetK, RetH, retL, retOne, Back, Veq, subH, obs, obsIf, En.get, En.put, En.ev, enOf, gcond, wantB, constV, exGet, subE, Sub, RV, RVL, NR, RO, subER, subHR, newLt, oldNe, oldOk, oldGe, notIn, ivN, lookN, SubR, Nm.root, Nat.reduceMul, Nat.reduceLeDiff, Nat.reduceEqDiff, Nat.reduceLT, Nat.reduceAdd, Nat.reduceSub, ↓reduceIte, implies_true, reduceCtorEq, ne_eq, ↓shr_eq, IntKind.bits, Int.reduceToNat, Int.reducePow, dite_eq_ite, Value.oneCell', Nat.reduceBEq, Nat.reduceDiv, bnS, bnN, bnT, jsB, J0, J0f]
  have key : bndF c = if c < 194 ∨ 244 < c then (-1, 0, 0) else if c < 224 then (1, 128, 191) else if c = 224 then (2, 160, 191) else if c = 237 then (2, 128, 159)
    else if c < 240 then (2, 128, 191) else if c = 240 then (3, 144, 191) else if c = 244 then (3, 128, 143) else (3, 128, 191) := rfl
  refine ⟨fun h => ?_, fun h => ⟨fun h1 => ?_, fun h1 => ⟨fun h2 => ?_, fun h2 => ⟨fun h3 => ?_, fun h3 => ⟨fun h4 => ?_, fun h4 => ⟨fun h5 => ?_, fun h5 => ⟨fun h6 => ?_, fun h6 => ?_⟩⟩⟩⟩⟩⟩⟩
  all_goals simp only [Bool.or_eq_true, Bool.or_eq_false_iff, decide_eq_true_eq, decide_eq_false_iff_not, beq_iff_eq, beq_eq_false_iff_ne, ne_eq] at *
  · rw [if_pos h] at key; rw [key]; exact ⟨rfl, rfl, rfl⟩
  all_goals rw [if_neg (by omega)] at key
  · rw [if_pos h1] at key; rw [key]; exact ⟨rfl, rfl, rfl⟩
  all_goals rw [if_neg (by omega)] at key
  · rw [if_pos h2] at key; rw [key]; exact ⟨rfl, rfl, rfl⟩
  all_goals rw [if_neg (by omega)] at key
  · rw [if_pos h3] at key; rw [key]; exact ⟨rfl, rfl, rfl⟩
  all_goals rw [if_neg (by omega)] at key
  · rw [if_pos h4] at key; rw [key]; exact ⟨rfl, rfl, rfl⟩
  all_goals rw [if_neg (by omega)] at key
  · rw [if_pos h5] at key; rw [key]; exact ⟨rfl, rfl, rfl⟩
  all_goals rw [if_neg (by omega)] at key
  · rw [if_pos h6] at key; rw [key]; exact ⟨rfl, rfl, rfl⟩
  · rw [if_neg (by omega)] at key; rw [key]; exact ⟨rfl, rfl, rfl⟩
def gotV (a : Int) (s : List UInt8) (e b : Int) : V := .st [.i a, .val (.slice none 0 0), .str s, .i e, .i b]
theorem fault_fn (J : Inv) (e a : Int) : Fn Tryd.prog J 35 false [.i e, .i a] (gotV 0 [] e a) := by
  refine Fn.of_plain (nx := 1) (post := []) ?_ rfl
  refine fnH_introC Tryd.func35 rfl (by kernel_rfl) (Nat.le_of_ble_eq_true (by kernel_rfl)) (by kernel_rfl) (by kernel_rfl) (J0_ok J) rfl ?_
  unfold Tryd.f35
  simp only [eqC, vlook, vmark, seqN, sameBox, boxJs, vquietR, vopsR, RetC, retW, cellR, undV, vgA, vbinN, vnn, isNilC, isIf, vconvH, vconvO, cvOk, frz1, frzE, jsOk, jsCo, rowsH, vgcH, vgH, vopsT, stepE, Kseq_app, vg_skip, vg_label, vg_seq, vg_region, vg_cond, vg_block, vg_exit, vg_ret, vg_loop, vcallF, vcallH, uls, HdelK, memN, noBox, ninL, keysH, jsAt, AdSub, adopt, noEl, isNil, effL, effO, vopsD, vquiet, vfstD, ldq, ldOk, vops, vfst, vone, vact, ug, addL, vbox, valloc, vstore, vbuild, arrF, vbuildSlice, vappend, vmake, zeroS, zeroE, vstrB, apC, nrm, nr1, nrL, keyL, neqs, diffs, V.app, V.len, vsrc, vdst, mkSl, mkBy, inOrd, placeAll, V.one, V.sto, V.csize, V.parts, V.cellsL, setMany, V.setB, V.setE, V.setO, V.noOwn, V.isOwn, vq, vcall, fzA, fz, fz1, fzL, fzN, rts, rt1, V.er, er1, er2, mixA, mixK, uargs, u1, R.add, vop, vbin, vint2, vstr2, vbool2, vnum, vun, vpick, vpick1, vbool, vconv, vnil, vfieldAddr, vindexAddr, vstEq, vindex, vload, vfield, aggD, vslice, bnd, uopt, vlen, vmin, vextract, Hpk, Hroot, refV, ownR, V.i, V.elems, V.cell, V.cut, V.exact, V.ex0, exL, V.cl, clL, V.sc, scL, scO, scH, V.ct, ct1, ct2, RetP, RetK, RetH, retL, retOne, Back, Veq, subH, obs, obsIf, En.get, En.put, En.ev, enOf, gcond, wantB, constV, exGet, subE, Sub, RV, RVL, NR, RO, subER, subHR, newLt, oldNe, oldOk, oldGe, notIn, ivN, lookN, SubR, Nm.root, Nat.reduceMul, Nat.reduceLeDiff, Nat.reduceEqDiff, Nat.reduceLT, Nat.reduceAdd, Nat.reduceSub, ↓reduceIte, implies_true, reduceCtorEq, ne_eq, ↓shr_eq, IntKind.bits, Int.reduceToNat, Int.reducePow, dite_eq_ite, Value.oneCell', Nat.reduceBEq, Nat.reduceDiv, bnS, bnN, bnT, jsB, J0, J0f]
  refine RenC.skip ?_
  simp only [eqC, vlook, vmark, seqN, sameBox, boxJs, vquietR, vopsR, RetC, retW, cellR, undV, vgA, vbinN, vnn, isNilC, isIf, vconvH, vconvO, cvOk, frz1, frzE, jsOk, jsCo, rowsH, vgcH, vgH, vopsT, stepE, Kseq_app, vg_skip, vg_label, vg_seq, vg_region, vg_cond, vg_block, vg_exit, vg_ret, vg_loop, vcallF, vcallH, uls, HdelK, memN, noBox, ninL, keysH, jsAt, AdSub, adopt, noEl, isNil, effL, effO, vopsD, vquiet, vfstD, ldq, ldOk, vops, vfst, vone, vact, ug, addL, vbox, valloc, vstore, vbuild, arrF, vbuildSlice, vappend, vmake, zeroS, zeroE, vstrB, apC, nrm, nr1, nrL, keyL, neqs, diffs, V.app, V.len, vsrc, vdst, mkSl, mkBy, inOrd, placeAll, V.one, V.sto, V.csize, V.parts, V.cellsL, setMany, V.setB, V.setE, V.setO, V.noOwn, V.isOwn, vq, vcall, fzA, fz, fz1, fzL, fzN, rts, rt1, V.er, er1, er2, mixA, mixK, uargs, u1, R.add, vop, vbin, vint2, vstr2, vbool2, vnum, vun, vpick, vpick1, vbool, vconv, vnil, vfieldAddr, vindexAddr, vstEq, vindex, vload, vfield, aggD, vslice, bnd, uopt, vlen, vmin, vextract, Hpk, Hroot, refV, ownR, V.i, V.elems, V.cell, V.cut, V.exact, V.ex0, exL, V.cl, clL, V.sc, scL, scO, scH, V.ct, ct1, ct2, RetP, RetK, RetH, retL, retOne, Back, Veq, subH, obs, obsIf, En.get, En.put, En.ev, enOf, gcond, wantB, constV, exGet, subE, Sub, RV, RVL, NR, RO, subER, subHR, newLt, oldNe, oldOk, oldGe, notIn, ivN, lookN, SubR, Nm.root, Nat.reduceMul, Nat.reduceLeDiff, Nat.reduceEqDiff, Nat.reduceLT, Nat.reduceAdd, Nat.reduceSub, ↓reduceIte, implies_true, reduceCtorEq, ne_eq, ↓shr_eq, IntKind.bits, Int.reduceToNat, Int.reducePow, dite_eq_ite, Value.oneCell', Nat.reduceBEq, Nat.reduceDiv, bnS, bnN, bnT, jsB, gotV]
  done
def atF (s : List UInt8) (a : Int) : Int := if (s.length : Int) ≤ a then -1 else byteAt s a.toNat
theorem byteAt_fn (J : Inv) (s : List UInt8) (a : Int) (ha : 0 ≤ a) : Fn Tryd.prog J 36 false [.str s, .i a] (.i (atF s a)) := by
  refine fn_intro Tryd.func36 rfl (by kernel_rfl) (Nat.le_of_ble_eq_true (by kernel_rfl)) (by kernel_rfl) (by kernel_rfl) rfl (J0_ok J) ?_
  unfold Tryd.f36
  simp only [eqC, vlook, vmark, seqN, sameBox, boxJs, vquietR, vopsR, RetC, retW, cellR, undV, vgA, vbinN, vnn, isNilC, isIf, vconvH, vconvO, cvOk, frz1, frzE, jsOk, jsCo, rowsH, vgcH, vgH, vopsT, stepE, Kseq_app, vg_skip, vg_label, vg_seq, vg_region, vg_cond, vg_block, vg_exit, vg_ret, vg_loop, vcallF, vcallH, uls, HdelK, memN, noBox, ninL, keysH, jsAt, AdSub, adopt, noEl, isNil, effL, effO, vopsD, vquiet, vfstD, ldq, ldOk, vops, vfst, vone, vact, ug, addL, vbox, valloc, vstore, vbuild, arrF, vbuildSlice, vappend, vmake, zeroS, zeroE, vstrB, apC, nrm, nr1, nrL, keyL, neqs, diffs, V.app, V.len, vsrc, vdst, mkSl, mkBy, inOrd, placeAll, V.one, V.sto, V.csize, V.parts, V.cellsL, setMany, V.setB, V.setE, V.setO, V.noOwn, V.isOwn, vq, vcall, fzA, fz, fz1, fzL, fzN, rts, rt1, V.er, er1, er2, mixA, mixK, uargs, u1, R.add, vop, vbin, vint2, vstr2, vbool2, vnum, vun, vpick, vpick1, vbool, vconv, vnil, vfieldAddr, vindexAddr, vstEq, vindex, vload, vfield, aggD, vslice, bnd, uopt, vlen, vmin, vextract, Hpk, Hroot, refV, ownR, V.i, V.elems, V.cell, V.cut, V.exact, V.ex0, exL, V.cl, clL, V.sc, scL, scO, scH, V.ct, ct1, ct2, RetP, RetK, RetH, retL, retOne, Back, Veq, subH, obs, obsIf, En.get, En.put, En.ev, enOf, gcond, wantB, constV, exGet, subE, Sub, RV, RVL, NR, RO, subER, subHR, newLt, oldNe, oldOk, oldGe, notIn, ivN, lookN, SubR, Nm.root, Nat.reduceMul, Nat.reduceLeDiff, Nat.reduceEqDiff, Nat.reduceLT, Nat.reduceAdd, Nat.reduceSub, ↓reduceIte, implies_true, reduceCtorEq, ne_eq, ↓shr_eq, IntKind.bits, Int.reduceToNat, Int.reducePow, dite_eq_ite, Value.oneCell', Nat.reduceBEq, Nat.reduceDiv, bnS, bnN, bnT, jsB, J0, J0f]
  refine ⟨fun h => ?_, fun h => ?_⟩
  · simp only [decide_eq_true_eq] at h
    rw [atF, if_pos h]
  · simp only [decide_eq_false_iff_not] at h
    rw [atF, if_neg h]
    exact ⟨ha, by omega, rfl⟩
def contS (s : List UInt8) (a : Nat) : Nat → Nat → Int → Int → Option (Int × Int)
  | 0, _, _, _ => none
  | n + 1, i, lo, hi => if s.length ≤ a + i then some (31, s.length) else if byteAt s (a + i) < lo ∨ hi < byteAt s (a + i) then some (32, a) else contS s a n (i + 1) 128 191
def seqV (s : List UInt8) (a : Nat) : V :=
  if (bndF (byteAt s a)).1 < 0 then gotV 0 [] 32 a else match contS s a (bndF (byteAt s a)).1.toNat 1 (bndF (byteAt s a)).2.1 (bndF (byteAt s a)).2.2 with
    | some (e, b) => gotV 0 [] e b
    | none => gotV (a + (bndF (byteAt s a)).1 + 1) ((s.drop a).take ((bndF (byteAt s a)).1.toNat + 1)) 0 0
def JGf : FuncId → List V → Option (List Prop × Bool × V) := fun f args =>
  if f = 34 then match args with
    | [.val (.int .i64 c)] => some ([], false, .tu [.i (bndF c).1, .i (bndF c).2.1, .i (bndF c).2.2])
    | _ => none
  else if f = 35 then match args with
    | [.val (.int .i64 e), .val (.int .i64 b)] => some ([], false, gotV 0 [] e b)
    | _ => none
  else if f = 36 then match args with
    | [.str s, .val (.int .i64 a)] => some ([0 ≤ a], false, .i (atF s a))
    | _ => none
  else none
def JGs (J : Inv) : Sig := ⟨J, jdf, JGf, noH, 0⟩
theorem JGs_ok (J : Inv) : SigOk Tryd.prog (JGs J) := by
  refine .plain fun f args l fr r h hl => ?_
  change JGf f args = some (l, fr, r) at h
  unfold JGf at h
  split at h
  · rename_i hf; subst hf
    split at h
    · obtain ⟨rfl, rfl, rfl⟩ := jsome_tri h; exact bounds_fn J _
    · exact absurd h (by simp)
  · split at h
    · rename_i hf; subst hf
      split at h
      · obtain ⟨rfl, rfl, rfl⟩ := jsome_tri h; exact fault_fn J _ _
      · exact absurd h (by simp)
    · split at h
      · rename_i hf; subst hf
        split at h
        · obtain ⟨rfl, rfl, rfl⟩ := jsome_tri h; exact byteAt_fn J _ _ (hl _ (by simp))
        · exact absurd h (by simp)
      · exact absurd h (by simp)
theorem sequence_fn (J : Inv) (s : List UInt8) (a : Nat) (ha : a < s.length) (hl : s.length ≤ 140737488355328) : Fn Tryd.prog J 28 false [.str s, .i a] (seqV s a) := by
  have hcl : (seqV s a).cl = true := by unfold seqV; split; rfl; split <;> rfl
  refine Fn.of_plain (nx := 1) (post := []) ?_ hcl
  clear hcl
  generalize hR : seqV s a = rr
  unfold seqV at hR
  refine fnH_introC Tryd.func28 rfl (by kernel_rfl) (Nat.le_of_ble_eq_true (by kernel_rfl)) (by kernel_rfl) (by kernel_rfl) (JGs_ok J) rfl ?_
  unfold Tryd.f28
  have hb := bndF_n (byteAt s a)
  obtain ⟨n, hn⟩ : ∃ n, n = (bndF (byteAt s a)).1 := ⟨_, rfl⟩
  obtain ⟨lo, hlo⟩ : ∃ n, n = (bndF (byteAt s a)).2.1 := ⟨_, rfl⟩
  obtain ⟨hi, hhi⟩ : ∃ n, n = (bndF (byteAt s a)).2.2 := ⟨_, rfl⟩
  rw [← hn, ← hlo, ← hhi] at hR
  rw [← hn] at hb
  simp only [eqC, vlook, vmark, seqN, sameBox, boxJs, vquietR, vopsR, RetC, retW, cellR, undV, vgA, vbinN, vnn, isNilC, isIf, vconvH, vconvO, cvOk, frz1, frzE, jsOk, jsCo, rowsH, vgcH, vgH, vopsT, stepE, Kseq_app, vg_skip, vg_label, vg_seq, vg_region, vg_cond, vg_block, vg_exit, vg_ret, vg_loop, vcallF, vcallH, uls, HdelK, memN, noBox, ninL, keysH, jsAt, AdSub, adopt, noEl, isNil, effL, effO, vopsD, vquiet, vfstD, ldq, ldOk, vops, vfst, vone, vact, ug, addL, vbox, valloc, vstore, vbuild, arrF, vbuildSlice, vappend, vmake, zeroS, zeroE, vstrB, apC, nrm, nr1, nrL, keyL, neqs, diffs, V.app, V.len, vsrc, vdst, mkSl, mkBy, inOrd, placeAll, V.one, V.sto, V.csize, V.parts, V.cellsL, setMany, V.setB, V.setE, V.setO, V.noOwn, V.isOwn, vq, vcall, fzA, fz, fz1, fzL, fzN, rts, rt1, V.er, er1, er2, mixA, mixK, uargs, u1, R.add, vop, vbin, vint2, vstr2, vbool2, vnum, vun, vpick, vpick1, vbool, vconv, vnil, vfieldAddr, vindexAddr, vstEq, vindex, vload, vfield, aggD, vslice, bnd, uopt, vlen, vmin, vextract, Hpk, Hroot, refV, ownR, V.i, V.elems, V.cell, V.cut, V.exact, V.ex0, exL, V.cl, clL, V.sc, scL, scO, scH, V.ct, ct1, ct2, RetP, RetK, RetH, retL, retOne, Back, Veq, subH, obs, obsIf, En.get, En.put, En.ev, enOf, gcond, wantB, constV, exGet, subE, Sub, RV, RVL, NR, RO, subER, subHR, newLt, oldNe, oldOk, oldGe, notIn, ivN, lookN, SubR, Nm.root, Nat.reduceMul, Nat.reduceLeDiff, Nat.reduceEqDiff, Nat.reduceLT, Nat.reduceAdd, Nat.reduceSub, ↓reduceIte, implies_true, reduceCtorEq, ne_eq, ↓shr_eq, IntKind.bits, Int.reduceToNat, Int.reducePow, dite_eq_ite, Value.oneCell', Nat.reduceBEq, Nat.reduceDiv, bnS, bnN, bnT, jsB, JGs, JGf, gotV, ← hn, ← hlo, ← hhi]
  refine ⟨by omega, by omega, fun h => ?_, fun h => ?_⟩
  · simp only [decide_eq_true_eq] at h
    rw [if_pos h] at hR
    refine RenC.skip ?_
    rw [← hR]
    simp only [eqC, vlook, vmark, seqN, sameBox, boxJs, vquietR, vopsR, RetC, retW, cellR, undV, vgA, vbinN, vnn, isNilC, isIf, vconvH, vconvO, cvOk, frz1, frzE, jsOk, jsCo, rowsH, vgcH, vgH, vopsT, stepE, Kseq_app, vg_skip, vg_label, vg_seq, vg_region, vg_cond, vg_block, vg_exit, vg_ret, vg_loop, vcallF, vcallH, uls, HdelK, memN, noBox, ninL, keysH, jsAt, AdSub, adopt, noEl, isNil, effL, effO, vopsD, vquiet, vfstD, ldq, ldOk, vops, vfst, vone, vact, ug, addL, vbox, valloc, vstore, vbuild, arrF, vbuildSlice, vappend, vmake, zeroS, zeroE, vstrB, apC, nrm, nr1, nrL, keyL, neqs, diffs, V.app, V.len, vsrc, vdst, mkSl, mkBy, inOrd, placeAll, V.one, V.sto, V.csize, V.parts, V.cellsL, setMany, V.setB, V.setE, V.setO, V.noOwn, V.isOwn, vq, vcall, fzA, fz, fz1, fzL, fzN, rts, rt1, V.er, er1, er2, mixA, mixK, uargs, u1, R.add, vop, vbin, vint2, vstr2, vbool2, vnum, vun, vpick, vpick1, vbool, vconv, vnil, vfieldAddr, vindexAddr, vstEq, vindex, vload, vfield, aggD, vslice, bnd, uopt, vlen, vmin, vextract, Hpk, Hroot, refV, ownR, V.i, V.elems, V.cell, V.cut, V.exact, V.ex0, exL, V.cl, clL, V.sc, scL, scO, scH, V.ct, ct1, ct2, RetP, RetK, RetH, retL, retOne, Back, Veq, subH, obs, obsIf, En.get, En.put, En.ev, enOf, gcond, wantB, constV, exGet, subE, Sub, RV, RVL, NR, RO, subER, subHR, newLt, oldNe, oldOk, oldGe, notIn, ivN, lookN, SubR, Nm.root, Nat.reduceMul, Nat.reduceLeDiff, Nat.reduceEqDiff, Nat.reduceLT, Nat.reduceAdd, Nat.reduceSub, ↓reduceIte, implies_true, reduceCtorEq, ne_eq, ↓shr_eq, IntKind.bits, Int.reduceToNat, Int.reducePow, dite_eq_ite, Value.oneCell', Nat.reduceBEq, Nat.reduceDiv, bnS, bnN, bnT, jsB, gotV]
  · simp only [decide_eq_false_iff_not] at h
    rw [if_neg h] at hR
    refine LoopC.intro (α := Nat × Int × Int) (fun y => 1 ≤ y.1 ∧ (y.1 : Int) ≤ n + 1 ∧ a + y.1 ≤ s.length ∧ contS s a (n.toNat + 1 - y.1) y.1 y.2.1 y.2.2 = contS s a n.toNat 1 lo hi)
      (fun y => ⟨[(0, .str s), (1, .i a), (4, .op 0 0), (5, .i n), (6, .i y.2.1), (7, .i y.2.2), (8, .i y.1)], [(0, .box 65 (gotV 0 [] 0 0))], 1⟩) (fun y => n.toNat + 1 - y.1) (1, lo, hi) ⟨Nat.le_refl _, by simp only; omega, by simp only; omega, by simp⟩ ?_ ?_
    · simp only [eqC, vlook, vmark, seqN, sameBox, boxJs, vquietR, vopsR, RetC, retW, cellR, undV, vgA, vbinN, vnn, isNilC, isIf, vconvH, vconvO, cvOk, frz1, frzE, jsOk, jsCo, rowsH, vgcH, vgH, vopsT, stepE, Kseq_app, vg_skip, vg_label, vg_seq, vg_region, vg_cond, vg_block, vg_exit, vg_ret, vg_loop, vcallF, vcallH, uls, HdelK, memN, noBox, ninL, keysH, jsAt, AdSub, adopt, noEl, isNil, effL, effO, vopsD, vquiet, vfstD, ldq, ldOk, vops, vfst, vone, vact, ug, addL, vbox, valloc, vstore, vbuild, arrF, vbuildSlice, vappend, vmake, zeroS, zeroE, vstrB, apC, nrm, nr1, nrL, keyL, neqs, diffs, V.app, V.len, vsrc, vdst, mkSl, mkBy, inOrd, placeAll, V.one, V.sto, V.csize, V.parts, V.cellsL, setMany, V.setB, V.setE, V.setO, V.noOwn, V.isOwn, vq, vcall, fzA, fz, fz1, fzL, fzN, rts, rt1, V.er, er1, er2, mixA, mixK, uargs, u1, R.add, vop, vbin, vint2, vstr2, vbool2, vnum, vun, vpick, vpick1, vbool, vconv, vnil, vfieldAddr, vindexAddr, vstEq, vindex, vload, vfield, aggD, vslice, bnd, uopt, vlen, vmin, vextract, Hpk, Hroot, refV, ownR, V.i, V.elems, V.cell, V.cut, V.exact, V.ex0, exL, V.cl, clL, V.sc, scL, scO, scH, V.ct, ct1, ct2, RetP, RetK, RetH, retL, retOne, Back, Veq, subH, obs, obsIf, En.get, En.put, En.ev, enOf, gcond, wantB, constV, exGet, subE, Sub, RV, RVL, NR, RO, subER, subHR, newLt, oldNe, oldOk, oldGe, notIn, ivN, lookN, SubR, Nm.root, Nat.reduceMul, Nat.reduceLeDiff, Nat.reduceEqDiff, Nat.reduceLT, Nat.reduceAdd, Nat.reduceSub, ↓reduceIte, implies_true, reduceCtorEq, ne_eq, ↓shr_eq, IntKind.bits, Int.reduceToNat, Int.reducePow, dite_eq_ite, Value.oneCell', Nat.reduceBEq, Nat.reduceDiv, bnS, bnN, bnT, jsB, gotV]
      rfl
    · rintro ⟨i, l, u⟩ ⟨q1, q2, q3, q4⟩
      simp only at q1 q2 q3 q4
      simp only [eqC, vlook, vmark, seqN, sameBox, boxJs, vquietR, vopsR, RetC, retW, cellR, undV, vgA, vbinN, vnn, isNilC, isIf, vconvH, vconvO, cvOk, frz1, frzE, jsOk, jsCo, rowsH, vgcH, vgH, vopsT, stepE, Kseq_app, vg_skip, vg_label, vg_seq, vg_region, vg_cond, vg_block, vg_exit, vg_ret, vg_loop, vcallF, vcallH, uls, HdelK, memN, noBox, ninL, keysH, jsAt, AdSub, adopt, noEl, isNil, effL, effO, vopsD, vquiet, vfstD, ldq, ldOk, vops, vfst, vone, vact, ug, addL, vbox, valloc, vstore, vbuild, arrF, vbuildSlice, vappend, vmake, zeroS, zeroE, vstrB, apC, nrm, nr1, nrL, keyL, neqs, diffs, V.app, V.len, vsrc, vdst, mkSl, mkBy, inOrd, placeAll, V.one, V.sto, V.csize, V.parts, V.cellsL, setMany, V.setB, V.setE, V.setO, V.noOwn, V.isOwn, vq, vcall, fzA, fz, fz1, fzL, fzN, rts, rt1, V.er, er1, er2, mixA, mixK, uargs, u1, R.add, vop, vbin, vint2, vstr2, vbool2, vnum, vun, vpick, vpick1, vbool, vconv, vnil, vfieldAddr, vindexAddr, vstEq, vindex, vload, vfield, aggD, vslice, bnd, uopt, vlen, vmin, vextract, Hpk, Hroot, refV, ownR, V.i, V.elems, V.cell, V.cut, V.exact, V.ex0, exL, V.cl, clL, V.sc, scL, scO, scH, V.ct, ct1, ct2, RetP, RetK, RetH, retL, retOne, Back, Veq, subH, obs, obsIf, En.get, En.put, En.ev, enOf, gcond, wantB, constV, exGet, subE, Sub, RV, RVL, NR, RO, subER, subHR, newLt, oldNe, oldOk, oldGe, notIn, ivN, lookN, SubR, Nm.root, Nat.reduceMul, Nat.reduceLeDiff, Nat.reduceEqDiff, Nat.reduceLT, Nat.reduceAdd, Nat.reduceSub, ↓reduceIte, implies_true, reduceCtorEq, ne_eq, ↓shr_eq, IntKind.bits, Int.reduceToNat, Int.reducePow, dite_eq_ite, Value.oneCell', Nat.reduceBEq, Nat.reduceDiv, bnS, bnN, bnT, jsB, JGs, JGf, gotV]
      rw [← q4] at hR
      refine ⟨fun h1 => ?_, fun h1 => ?_⟩
      · simp only [decide_eq_true_eq] at h1
        obtain ⟨m, hm⟩ : ∃ m, n.toNat + 1 - i = m + 1 := ⟨n.toNat - i, by omega⟩
        have hm2 : n.toNat + 1 - (i + 1) = m := by omega
        rw [hm, contS] at hR q4
        have hat : atF s ((a : Int) + i) = if s.length ≤ a + i then -1 else byteAt s (a + i) := by
          unfold atF
          rw [show ((a : Int) + i).toNat = a + i from by omega]
          split <;> split <;> first | rfl | omega
        have h0 : 0 ≤ byteAt s (a + i) := by unfold byteAt; omega
        refine ⟨by constructor <;> omega, by omega, fun h2 => ?_, fun h2 => ?_⟩
        · simp only [decide_eq_true_eq, hat] at h2
          rw [if_pos (by split at h2 <;> omega)] at hR
          refine RenC.skip ?_
          rw [← hR]
          simp only [eqC, vlook, vmark, seqN, sameBox, boxJs, vquietR, vopsR, RetC, retW, cellR, undV, vgA, vbinN, vnn, isNilC, isIf, vconvH, vconvO, cvOk, frz1, frzE, jsOk, jsCo, rowsH, vgcH, vgH, vopsT, stepE, Kseq_app, vg_skip, vg_label, vg_seq, vg_region, vg_cond, vg_block, vg_exit, vg_ret, vg_loop, vcallF, vcallH, uls, HdelK, memN, noBox, ninL, keysH, jsAt, AdSub, adopt, noEl, isNil, effL, effO, vopsD, vquiet, vfstD, ldq, ldOk, vops, vfst, vone, vact, ug, addL, vbox, valloc, vstore, vbuild, arrF, vbuildSlice, vappend, vmake, zeroS, zeroE, vstrB, apC, nrm, nr1, nrL, keyL, neqs, diffs, V.app, V.len, vsrc, vdst, mkSl, mkBy, inOrd, placeAll, V.one, V.sto, V.csize, V.parts, V.cellsL, setMany, V.setB, V.setE, V.setO, V.noOwn, V.isOwn, vq, vcall, fzA, fz, fz1, fzL, fzN, rts, rt1, V.er, er1, er2, mixA, mixK, uargs, u1, R.add, vop, vbin, vint2, vstr2, vbool2, vnum, vun, vpick, vpick1, vbool, vconv, vnil, vfieldAddr, vindexAddr, vstEq, vindex, vload, vfield, aggD, vslice, bnd, uopt, vlen, vmin, vextract, Hpk, Hroot, refV, ownR, V.i, V.elems, V.cell, V.cut, V.exact, V.ex0, exL, V.cl, clL, V.sc, scL, scO, scH, V.ct, ct1, ct2, RetP, RetK, RetH, retL, retOne, Back, Veq, subH, obs, obsIf, En.get, En.put, En.ev, enOf, gcond, wantB, constV, exGet, subE, Sub, RV, RVL, NR, RO, subER, subHR, newLt, oldNe, oldOk, oldGe, notIn, ivN, lookN, SubR, Nm.root, Nat.reduceMul, Nat.reduceLeDiff, Nat.reduceEqDiff, Nat.reduceLT, Nat.reduceAdd, Nat.reduceSub, ↓reduceIte, implies_true, reduceCtorEq, ne_eq, ↓shr_eq, IntKind.bits, Int.reduceToNat, Int.reducePow, dite_eq_ite, Value.oneCell', Nat.reduceBEq, Nat.reduceDiv, bnS, bnN, bnT, jsB, gotV]
        · simp only [decide_eq_false_iff_not, hat] at h2
          have h3 : ¬ s.length ≤ a + i := fun h3 => by rw [if_pos h3] at h2; omega
          rw [if_neg h3] at hat hR q4
          rw [hat]
          refine ⟨fun h4 => ?_, fun h4 => ?_⟩
          · simp only [Bool.or_eq_true, decide_eq_true_eq] at h4
            rw [if_pos h4] at hR
            refine RenC.skip ?_
            rw [← hR]
            simp only [eqC, vlook, vmark, seqN, sameBox, boxJs, vquietR, vopsR, RetC, retW, cellR, undV, vgA, vbinN, vnn, isNilC, isIf, vconvH, vconvO, cvOk, frz1, frzE, jsOk, jsCo, rowsH, vgcH, vgH, vopsT, stepE, Kseq_app, vg_skip, vg_label, vg_seq, vg_region, vg_cond, vg_block, vg_exit, vg_ret, vg_loop, vcallF, vcallH, uls, HdelK, memN, noBox, ninL, keysH, jsAt, AdSub, adopt, noEl, isNil, effL, effO, vopsD, vquiet, vfstD, ldq, ldOk, vops, vfst, vone, vact, ug, addL, vbox, valloc, vstore, vbuild, arrF, vbuildSlice, vappend, vmake, zeroS, zeroE, vstrB, apC, nrm, nr1, nrL, keyL, neqs, diffs, V.app, V.len, vsrc, vdst, mkSl, mkBy, inOrd, placeAll, V.one, V.sto, V.csize, V.parts, V.cellsL, setMany, V.setB, V.setE, V.setO, V.noOwn, V.isOwn, vq, vcall, fzA, fz, fz1, fzL, fzN, rts, rt1, V.er, er1, er2, mixA, mixK, uargs, u1, R.add, vop, vbin, vint2, vstr2, vbool2, vnum, vun, vpick, vpick1, vbool, vconv, vnil, vfieldAddr, vindexAddr, vstEq, vindex, vload, vfield, aggD, vslice, bnd, uopt, vlen, vmin, vextract, Hpk, Hroot, refV, ownR, V.i, V.elems, V.cell, V.cut, V.exact, V.ex0, exL, V.cl, clL, V.sc, scL, scO, scH, V.ct, ct1, ct2, RetP, RetK, RetH, retL, retOne, Back, Veq, subH, obs, obsIf, En.get, En.put, En.ev, enOf, gcond, wantB, constV, exGet, subE, Sub, RV, RVL, NR, RO, subER, subHR, newLt, oldNe, oldOk, oldGe, notIn, ivN, lookN, SubR, Nm.root, Nat.reduceMul, Nat.reduceLeDiff, Nat.reduceEqDiff, Nat.reduceLT, Nat.reduceAdd, Nat.reduceSub, ↓reduceIte, implies_true, reduceCtorEq, ne_eq, ↓shr_eq, IntKind.bits, Int.reduceToNat, Int.reducePow, dite_eq_ite, Value.oneCell', Nat.reduceBEq, Nat.reduceDiv, bnS, bnN, bnT, jsB, gotV]
          · simp only [Bool.or_eq_false_iff, decide_eq_false_iff_not] at h4
            rw [if_neg (by omega)] at q4
            refine ⟨by constructor <;> omega, Again.intro (i + 1, 128, 191) ⟨by simp only; omega, by simp only; omega, by simp only; omega, by simp only; rw [hm2]; exact q4⟩ (by simp only; omega) ?_⟩
            simp only [eqC, vlook, vmark, seqN, sameBox, boxJs, vquietR, vopsR, RetC, retW, cellR, undV, vgA, vbinN, vnn, isNilC, isIf, vconvH, vconvO, cvOk, frz1, frzE, jsOk, jsCo, rowsH, vgcH, vgH, vopsT, stepE, Kseq_app, vg_skip, vg_label, vg_seq, vg_region, vg_cond, vg_block, vg_exit, vg_ret, vg_loop, vcallF, vcallH, uls, HdelK, memN, noBox, ninL, keysH, jsAt, AdSub, adopt, noEl, isNil, effL, effO, vopsD, vquiet, vfstD, ldq, ldOk, vops, vfst, vone, vact, ug, addL, vbox, valloc, vstore, vbuild, arrF, vbuildSlice, vappend, vmake, zeroS, zeroE, vstrB, apC, nrm, nr1, nrL, keyL, neqs, diffs, V.app, V.len, vsrc, vdst, mkSl, mkBy, inOrd, placeAll, V.one, V.sto, V.csize, V.parts, V.cellsL, setMany, V.setB, V.setE, V.setO, V.noOwn, V.isOwn, vq, vcall, fzA, fz, fz1, fzL, fzN, rts, rt1, V.er, er1, er2, mixA, mixK, uargs, u1, R.add, vop, vbin, vint2, vstr2, vbool2, vnum, vun, vpick, vpick1, vbool, vconv, vnil, vfieldAddr, vindexAddr, vstEq, vindex, vload, vfield, aggD, vslice, bnd, uopt, vlen, vmin, vextract, Hpk, Hroot, refV, ownR, V.i, V.elems, V.cell, V.cut, V.exact, V.ex0, exL, V.cl, clL, V.sc, scL, scO, scH, V.ct, ct1, ct2, RetP, RetK, RetH, retL, retOne, Back, Veq, subH, obs, obsIf, En.get, En.put, En.ev, enOf, gcond, wantB, constV, exGet, subE, Sub, RV, RVL, NR, RO, subER, subHR, newLt, oldNe, oldOk, oldGe, notIn, ivN, lookN, SubR, Nm.root, Nat.reduceMul, Nat.reduceLeDiff, Nat.reduceEqDiff, Nat.reduceLT, Nat.reduceAdd, Nat.reduceSub, ↓reduceIte, implies_true, reduceCtorEq, ne_eq, ↓shr_eq, IntKind.bits, Int.reduceToNat, Int.reducePow, dite_eq_ite, Value.oneCell', Nat.reduceBEq, Nat.reduceDiv, bnS, bnN, bnT, jsB, gotV]
            omega
      · simp only [decide_eq_false_iff_not] at h1
        obtain rfl : i = n.toNat + 1 := by omega
        rw [Nat.sub_self, contS] at hR
        refine ⟨by constructor <;> omega, by constructor <;> omega, by constructor <;> omega, by constructor <;> omega, by omega, by omega, by omega, RenC.skip ?_⟩
        have hc : cutL s a (((a : Int) + n + 1).toNat - a) = (s.drop a).take (n.toNat + 1) := by
          rw [cutL_eq]
          congr 1
          omega
        rw [← hR, hc]
        simp only [eqC, vlook, vmark, seqN, sameBox, boxJs, vquietR, vopsR, RetC, retW, cellR, undV, vgA, vbinN, vnn, isNilC, isIf, vconvH, vconvO, cvOk, frz1, frzE, jsOk, jsCo, rowsH, vgcH, vgH, vopsT, stepE, Kseq_app, vg_skip, vg_label, vg_seq, vg_region, vg_cond, vg_block, vg_exit, vg_ret, vg_loop, vcallF, vcallH, uls, HdelK, memN, noBox, ninL, keysH, jsAt, AdSub, adopt, noEl, isNil, effL, effO, vopsD, vquiet, vfstD, ldq, ldOk, vops, vfst, vone, vact, ug, addL, vbox, valloc, vstore, vbuild, arrF, vbuildSlice, vappend, vmake, zeroS, zeroE, vstrB, apC, nrm, nr1, nrL, keyL, neqs, diffs, V.app, V.len, vsrc, vdst, mkSl, mkBy, inOrd, placeAll, V.one, V.sto, V.csize, V.parts, V.cellsL, setMany, V.setB, V.setE, V.setO, V.noOwn, V.isOwn, vq, vcall, fzA, fz, fz1, fzL, fzN, rts, rt1, V.er, er1, er2, mixA, mixK, uargs, u1, R.add, vop, vbin, vint2, vstr2, vbool2, vnum, vun, vpick, vpick1, vbool, vconv, vnil, vfieldAddr, vindexAddr, vstEq, vindex, vload, vfield, aggD, vslice, bnd, uopt, vlen, vmin, vextract, Hpk, Hroot, refV, ownR, V.i, V.elems, V.cell, V.cut, V.exact, V.ex0, exL, V.cl, clL, V.sc, scL, scO, scH, V.ct, ct1, ct2, RetP, RetK, RetH, retL, retOne, Back, Veq, subH, obs, obsIf, En.get, En.put, En.ev, enOf, gcond, wantB, constV, exGet, subE, Sub, RV, RVL, NR, RO, subER, subHR, newLt, oldNe, oldOk, oldGe, notIn, ivN, lookN, SubR, Nm.root, Nat.reduceMul, Nat.reduceLeDiff, Nat.reduceEqDiff, Nat.reduceLT, Nat.reduceAdd, Nat.reduceSub, ↓reduceIte, implies_true, reduceCtorEq, ne_eq, ↓shr_eq, IntKind.bits, Int.reduceToNat, Int.reducePow, dite_eq_ite, Value.oneCell', Nat.reduceBEq, Nat.reduceDiv, bnS, bnN, bnT, jsB, gotV]
theorem bndF_is : ∀ b : Fin 256, 128 ≤ b.val → ((bndF (b.val : Int)).1 < 0 ∧ Lib.firstT b.val % 8 ≠ 2 ∧ Lib.firstT b.val % 8 ≠ 3 ∧ Lib.firstT b.val % 8 ≠ 4) ∨
    ((bndF (b.val : Int)).1 = 1 ∨ (bndF (b.val : Int)).1 = 2 ∨ (bndF (b.val : Int)).1 = 3) ∧ (Lib.firstT b.val % 8 : Nat) = (bndF (b.val : Int)).1 + 1 ∧ (Lib.accLo (Lib.firstT b.val / 16) : Nat) = (bndF (b.val : Int)).2.1 ∧ (Lib.accHi (Lib.firstT b.val / 16) : Nat) = (bndF (b.val : Int)).2.2 := by
  decide +kernel
/-- What is asked of a sequence is what the library asks. -/
theorem seq_valid (s : List UInt8) (a : Nat) (ha : a < s.length) (h0 : 128 ≤ byteAt s a) :
    Lib.validD (s.drop a) = if (bndF (byteAt s a)).1 < 0 then false else match contS s a (bndF (byteAt s a)).1.toNat 1 (bndF (byteAt s a)).2.1 (bndF (byteAt s a)).2.2 with
      | some _ => false
      | none => Lib.validD (s.drop (a + ((bndF (byteAt s a)).1.toNat + 1))) := by
  have hg : ∀ k, (((s.drop a).getD k 0).toNat : Int) = byteAt s (a + k) := fun k => by unfold byteAt; simp [List.getD_eq_getElem?_getD, List.getElem?_drop]
  have hb := hg 0
  rw [Nat.add_zero] at hb
  have h1 := hg 1
  have h2 := hg 2
  have h3 := hg 3
  rw [Lib.validD_lead _ (by simp; omega) (by omega)]
  have hl : (s.drop a).length = s.length - a := by simp
  have hd : ∀ k, (s.drop a).drop k = s.drop (a + k) := fun k => by rw [List.drop_drop]
  rw [← hb] at h0 ⊢
  rcases bndF_is ⟨((s.drop a).getD 0 0).toNat, UInt8.toNat_lt _⟩ (show 128 ≤ ((s.drop a).getD 0 0).toNat by omega) with ⟨c1, c2, c3, c4⟩ | ⟨c1, c2, c3, c4⟩
  · simp only at c1 c2 c3 c4
    rw [if_pos c1, Lib.checkN, if_neg c2, if_neg c3, if_neg c4]
  · simp only at c1 c2 c3 c4
    rw [if_neg (by omega), ← c3, ← c4]
    generalize Lib.accLo (Lib.firstT ((s.drop a).getD 0 0).toNat / 16) = lo at *
    generalize Lib.accHi (Lib.firstT ((s.drop a).getD 0 0).toNat / 16) = hi at *
    generalize ((s.drop a).getD 1 0).toNat = x1 at *
    generalize ((s.drop a).getD 2 0).toNat = x2 at *
    generalize ((s.drop a).getD 3 0).toNat = x3 at *
    clear hg hb c3 c4
    rcases c1 with c1 | c1 | c1
    · rw [c1] at c2 ⊢
      rw [show Lib.firstT ((s.drop a).getD 0 0).toNat % 8 = 2 from by omega, Lib.checkN, if_pos rfl]
      simp only [Int.toNat_one, contS, ← h1, hl, Nat.reduceAdd]
      by_cases hA : s.length - a < 2 ∨ x1 < lo ∨ hi < x1 <;> by_cases hB : s.length ≤ a + 1 <;> by_cases hC : (x1 : Int) < lo ∨ (hi : Int) < x1 <;> simp only [hA, hB, hC, if_true, if_false, hd] <;> exfalso <;> omega
    · rw [c1] at c2 ⊢
      rw [show Lib.firstT ((s.drop a).getD 0 0).toNat % 8 = 3 from by omega, Lib.checkN, if_neg (by decide), if_pos rfl]
      simp only [show (2 : Int).toNat = 2 from rfl, contS, ← h1, ← h2, hl, Nat.reduceAdd]
      by_cases hA : s.length - a < 3 ∨ x1 < lo ∨ hi < x1 ∨ x2 < 128 ∨ 191 < x2 <;> by_cases hB : s.length ≤ a + 1 <;> by_cases hC : (x1 : Int) < lo ∨ (hi : Int) < x1 <;> by_cases hD : s.length ≤ a + 2 <;> by_cases hE : (x2 : Int) < 128 ∨ 191 < (x2 : Int) <;> simp only [hA, hB, hC, hD, hE, if_true, if_false, hd] <;> exfalso <;> omega
    · rw [c1] at c2 ⊢
      rw [show Lib.firstT ((s.drop a).getD 0 0).toNat % 8 = 4 from by omega, Lib.checkN, if_neg (by decide), if_neg (by decide), if_pos rfl]
      simp only [show (3 : Int).toNat = 3 from rfl, contS, ← h1, ← h2, ← h3, hl, Nat.reduceAdd]
      by_cases hA : s.length - a < 4 ∨ x1 < lo ∨ hi < x1 ∨ x2 < 128 ∨ 191 < x2 ∨ x3 < 128 ∨ 191 < x3 <;> by_cases hB : s.length ≤ a + 1 <;> by_cases hC : (x1 : Int) < lo ∨ (hi : Int) < x1 <;> by_cases hD : s.length ≤ a + 2 <;> by_cases hE : (x2 : Int) < 128 ∨ 191 < (x2 : Int) <;> by_cases hF : s.length ≤ a + 3 <;> by_cases hG : (x3 : Int) < 128 ∨ 191 < (x3 : Int) <;> simp only [hA, hB, hC, hD, hE, hF, hG, if_true, if_false, hd] <;> exfalso <;> omega
end Go.Proofs.YtbjfhnbgiajnjaaDoor
