/- json.Behind, json.Member: the walks. -/
import Derived.Test.YtbjfhnbgiajnjaaDoorJData
namespace Go.Proofs.YtbjfhnbgiajnjaaDoor
open Go.RowKit
set_option linter.unusedSimpArgs false
set_option maxRecDepth 100000
/-- So many nodes as there can be. -/
structure Few (v : List Nd) : Prop where
  len : v.length ≤ 1048576
  kids : ∀ n ∈ v, 0 ≤ n.kids ∧ n.kids ≤ 1048576
theorem Few.at {v : List Nd} (h : Few v) {k : Nat} (hk : k < v.length) : 0 ≤ (v.getD k default).kids ∧ (v.getD k default).kids ≤ 1048576 := by
  rw [List.getD_eq_getElem?_getD, List.getElem?_eq_getElem hk, Option.getD_some]
  exact h.kids _ (List.getElem_mem hk)
theorem nd_drop {v : List Nd} {k : Nat} (hk : k < v.length) : v.drop k = v.getD k default :: v.drop (k + 1) := by
  rw [List.getD_eq_getElem?_getD, List.getElem?_eq_getElem hk, Option.getD_some]
  exact List.drop_eq_getElem_cons hk
def behI (v : List Nd) (a : Int) : Int := if a < 0 ∨ (v.length : Int) ≤ a then -1 else a + behP (v.drop a.toNat) 1
theorem jBehind_fn (J : Inv) (v : List Nd) (a : Int) (hv : Few v) : Fn Tryd.prog J 15 false [ndsV v, .i a] (.i (behI v a)) := by
  have hl := hv.1
  unfold behI
  refine fn_intro Tryd.func15 rfl (by kernel_rfl) (Nat.le_of_ble_eq_true (by kernel_rfl)) (by kernel_rfl) (by kernel_rfl) rfl (J0_ok J) ?_
  unfold Tryd.f15
  simp only [eqC, vlook, vmark, seqN, sameBox, boxJs, vquietR, vopsR, RetC, retW, cellR, undV, vgA, vbinN, vnn, isNilC, isIf, vconvH, vconvO, cvOk, frz1, frzE, jsOk, jsCo, rowsH, vgcH, vgH, vopsT, stepE, Kseq_app, vg_skip, vg_label, vg_seq, vg_region, vg_cond, vg_block, vg_exit, vg_ret, vg_loop, vcallF, vcallH, uls, HdelK, memN, noBox, ninL, keysH, jsAt, AdSub, adopt, noEl, isNil, effL, effO, vopsD, vquiet, vfstD, ldq, ldOk, vops, vfst, vone, vact, ug, addL, vbox, valloc, vstore, vbuild, arrF, vbuildSlice, vappend, vmake, zeroS, zeroE, vstrB, apC, nrm, nr1, nrL, keyL, neqs, diffs, V.app, V.len, vsrc, vdst, mkSl, mkBy, inOrd, placeAll, V.one, V.sto, V.csize, V.parts, V.cellsL, setMany, V.setB, V.setE, V.setO, V.noOwn, V.isOwn, vq, vcall, fzA, fz, fz1, fzL, fzN, rts, rt1, V.er, er1, er2, mixA, mixK, uargs, u1, R.add, vop, vbin, vint2, vstr2, vbool2, vnum, vun, vpick, vpick1, vbool, vconv, vnil, vfieldAddr, vindexAddr, vstEq, vindex, vload, vfield, aggD, vslice, bnd, uopt, vlen, vmin, vextract, Hpk, Hroot, refV, ownR, V.i, V.elems, V.cell, V.cut, V.exact, V.ex0, exL, V.cl, clL, V.sc, scL, scO, scH, V.ct, ct1, ct2, RetP, RetK, RetH, retL, retOne, Back, Veq, subH, obs, obsIf, En.get, En.put, En.ev, enOf, gcond, wantB, constV, exGet, subE, Sub, RV, RVL, NR, RO, subER, subHR, newLt, oldNe, oldOk, oldGe, notIn, ivN, lookN, SubR, Nm.root, Nat.reduceMul, Nat.reduceLeDiff, Nat.reduceEqDiff, Nat.reduceLT, Nat.reduceAdd, Nat.reduceSub, ↓reduceIte, implies_true, reduceCtorEq, ne_eq, ↓shr_eq, IntKind.bits, Int.reduceToNat, Int.reducePow, dite_eq_ite, Value.oneCell', Nat.reduceBEq, Nat.reduceDiv, bnS, bnN, bnT, jsB, J0, J0f, ndsV, ndD, jdf]
  refine ⟨fun h => ?_, fun h => ?_⟩
  · simp only [Bool.or_eq_true, decide_eq_true_eq] at h
    rw [if_pos h]
  · simp only [Bool.or_eq_false_iff, decide_eq_false_iff_not] at h
    rw [if_neg (by omega)]
    obtain ⟨a, rfl⟩ : ∃ n : Nat, a = n := ⟨a.toNat, by omega⟩
    refine LoopC.intro (α := Int × Nat) (fun y => a ≤ y.2 ∧ y.2 ≤ v.length ∧ 0 ≤ y.1 ∧ y.1 ≤ 1 + ((y.2 - a : Nat) : Int) * 1048576 ∧ (a : Int) + behP (v.drop a) 1 = y.2 + behP (v.drop y.2) y.1)
      (fun y => ⟨[(0, ndsV v), (5, .i y.1), (1, .i y.2)], [], 0⟩) (fun y => v.length - y.2) (1, a) ⟨Nat.le_refl _, by omega, by simp, by simp, rfl⟩ ?_ ?_
    · simp only [eqC, vlook, vmark, seqN, sameBox, boxJs, vquietR, vopsR, RetC, retW, cellR, undV, vgA, vbinN, vnn, isNilC, isIf, vconvH, vconvO, cvOk, frz1, frzE, jsOk, jsCo, rowsH, vgcH, vgH, vopsT, stepE, Kseq_app, vg_skip, vg_label, vg_seq, vg_region, vg_cond, vg_block, vg_exit, vg_ret, vg_loop, vcallF, vcallH, uls, HdelK, memN, noBox, ninL, keysH, jsAt, AdSub, adopt, noEl, isNil, effL, effO, vopsD, vquiet, vfstD, ldq, ldOk, vops, vfst, vone, vact, ug, addL, vbox, valloc, vstore, vbuild, arrF, vbuildSlice, vappend, vmake, zeroS, zeroE, vstrB, apC, nrm, nr1, nrL, keyL, neqs, diffs, V.app, V.len, vsrc, vdst, mkSl, mkBy, inOrd, placeAll, V.one, V.sto, V.csize, V.parts, V.cellsL, setMany, V.setB, V.setE, V.setO, V.noOwn, V.isOwn, vq, vcall, fzA, fz, fz1, fzL, fzN, rts, rt1, V.er, er1, er2, mixA, mixK, uargs, u1, R.add, vop, vbin, vint2, vstr2, vbool2, vnum, vun, vpick, vpick1, vbool, vconv, vnil, vfieldAddr, vindexAddr, vstEq, vindex, vload, vfield, aggD, vslice, bnd, uopt, vlen, vmin, vextract, Hpk, Hroot, refV, ownR, V.i, V.elems, V.cell, V.cut, V.exact, V.ex0, exL, V.cl, clL, V.sc, scL, scO, scH, V.ct, ct1, ct2, RetP, RetK, RetH, retL, retOne, Back, Veq, subH, obs, obsIf, En.get, En.put, En.ev, enOf, gcond, wantB, constV, exGet, subE, Sub, RV, RVL, NR, RO, subER, subHR, newLt, oldNe, oldOk, oldGe, notIn, ivN, lookN, SubR, Nm.root, Nat.reduceMul, Nat.reduceLeDiff, Nat.reduceEqDiff, Nat.reduceLT, Nat.reduceAdd, Nat.reduceSub, ↓reduceIte, implies_true, reduceCtorEq, ne_eq, ↓shr_eq, IntKind.bits, Int.reduceToNat, Int.reducePow, dite_eq_ite, Value.oneCell', Nat.reduceBEq, Nat.reduceDiv, bnS, bnN, bnT, jsB, ndsV, ndD]
    · rintro ⟨m, k⟩ ⟨q1, q2, q3, q4, q5⟩
      simp only at q1 q2 q3 q4 q5
      simp only [eqC, vlook, vmark, seqN, sameBox, boxJs, vquietR, vopsR, RetC, retW, cellR, undV, vgA, vbinN, vnn, isNilC, isIf, vconvH, vconvO, cvOk, frz1, frzE, jsOk, jsCo, rowsH, vgcH, vgH, vopsT, stepE, Kseq_app, vg_skip, vg_label, vg_seq, vg_region, vg_cond, vg_block, vg_exit, vg_ret, vg_loop, vcallF, vcallH, uls, HdelK, memN, noBox, ninL, keysH, jsAt, AdSub, adopt, noEl, isNil, effL, effO, vopsD, vquiet, vfstD, ldq, ldOk, vops, vfst, vone, vact, ug, addL, vbox, valloc, vstore, vbuild, arrF, vbuildSlice, vappend, vmake, zeroS, zeroE, vstrB, apC, nrm, nr1, nrL, keyL, neqs, diffs, V.app, V.len, vsrc, vdst, mkSl, mkBy, inOrd, placeAll, V.one, V.sto, V.csize, V.parts, V.cellsL, setMany, V.setB, V.setE, V.setO, V.noOwn, V.isOwn, vq, vcall, fzA, fz, fz1, fzL, fzN, rts, rt1, V.er, er1, er2, mixA, mixK, uargs, u1, R.add, vop, vbin, vint2, vstr2, vbool2, vnum, vun, vpick, vpick1, vbool, vconv, vnil, vfieldAddr, vindexAddr, vstEq, vindex, vload, vfield, aggD, vslice, bnd, uopt, vlen, vmin, vextract, Hpk, Hroot, refV, ownR, V.i, V.elems, V.cell, V.cut, V.exact, V.ex0, exL, V.cl, clL, V.sc, scL, scO, scH, V.ct, ct1, ct2, RetP, RetK, RetH, retL, retOne, Back, Veq, subH, obs, obsIf, En.get, En.put, En.ev, enOf, gcond, wantB, constV, exGet, subE, Sub, RV, RVL, NR, RO, subER, subHR, newLt, oldNe, oldOk, oldGe, notIn, ivN, lookN, SubR, Nm.root, Nat.reduceMul, Nat.reduceLeDiff, Nat.reduceEqDiff, Nat.reduceLT, Nat.reduceAdd, Nat.reduceSub, ↓reduceIte, implies_true, reduceCtorEq, ne_eq, ↓shr_eq, IntKind.bits, Int.reduceToNat, Int.reducePow, dite_eq_ite, Value.oneCell', Nat.reduceBEq, Nat.reduceDiv, bnS, bnN, bnT, jsB, J0, J0f, ndsV, ndD, jdf]
      refine ⟨fun h5 => ?_, fun h5 => ?_⟩
      · simp only [Bool.and_eq_true, decide_eq_true_eq] at h5
        have hk : k < v.length := by omega
        obtain ⟨e1, e2⟩ := hv.at hk
        rw [nd_drop hk, behP, if_pos h5.1] at q5
        obtain ⟨d, hd⟩ : ∃ d : Nat, d = k - a := ⟨_, rfl⟩
        have hd2 : k + 1 - a = d + 1 := by omega
        rw [← hd] at q4
        have hd3 : (d : Int) ≤ 1048576 := by omega
        refine ⟨by omega, by omega, by constructor <;> omega, by constructor <;> omega, by constructor <;> omega, Again.intro (m + ((v.getD k default).kids - 1), k + 1) ⟨by simp only; omega, by simp only; omega, by simp only; omega, by simp only; rw [hd2]; omega, by simp only; omega⟩ (by simp only; omega) ?_⟩
        simp only [eqC, vlook, vmark, seqN, sameBox, boxJs, vquietR, vopsR, RetC, retW, cellR, undV, vgA, vbinN, vnn, isNilC, isIf, vconvH, vconvO, cvOk, frz1, frzE, jsOk, jsCo, rowsH, vgcH, vgH, vopsT, stepE, Kseq_app, vg_skip, vg_label, vg_seq, vg_region, vg_cond, vg_block, vg_exit, vg_ret, vg_loop, vcallF, vcallH, uls, HdelK, memN, noBox, ninL, keysH, jsAt, AdSub, adopt, noEl, isNil, effL, effO, vopsD, vquiet, vfstD, ldq, ldOk, vops, vfst, vone, vact, ug, addL, vbox, valloc, vstore, vbuild, arrF, vbuildSlice, vappend, vmake, zeroS, zeroE, vstrB, apC, nrm, nr1, nrL, keyL, neqs, diffs, V.app, V.len, vsrc, vdst, mkSl, mkBy, inOrd, placeAll, V.one, V.sto, V.csize, V.parts, V.cellsL, setMany, V.setB, V.setE, V.setO, V.noOwn, V.isOwn, vq, vcall, fzA, fz, fz1, fzL, fzN, rts, rt1, V.er, er1, er2, mixA, mixK, uargs, u1, R.add, vop, vbin, vint2, vstr2, vbool2, vnum, vun, vpick, vpick1, vbool, vconv, vnil, vfieldAddr, vindexAddr, vstEq, vindex, vload, vfield, aggD, vslice, bnd, uopt, vlen, vmin, vextract, Hpk, Hroot, refV, ownR, V.i, V.elems, V.cell, V.cut, V.exact, V.ex0, exL, V.cl, clL, V.sc, scL, scO, scH, V.ct, ct1, ct2, RetP, RetK, RetH, retL, retOne, Back, Veq, subH, obs, obsIf, En.get, En.put, En.ev, enOf, gcond, wantB, constV, exGet, subE, Sub, RV, RVL, NR, RO, subER, subHR, newLt, oldNe, oldOk, oldGe, notIn, ivN, lookN, SubR, Nm.root, Nat.reduceMul, Nat.reduceLeDiff, Nat.reduceEqDiff, Nat.reduceLT, Nat.reduceAdd, Nat.reduceSub, ↓reduceIte, implies_true, reduceCtorEq, ne_eq, ↓shr_eq, IntKind.bits, Int.reduceToNat, Int.reducePow, dite_eq_ite, Value.oneCell', Nat.reduceBEq, Nat.reduceDiv, bnS, bnN, bnT, jsB, ndsV, ndD]
        omega
      · simp only [Bool.and_eq_false_iff, decide_eq_false_iff_not] at h5
        have : behP (v.drop k) m = 0 := by
          rcases h5 with h5 | h5
          · cases v.drop k with
            | nil => rfl
            | cons x r => simp [behP, h5]
          · rw [List.drop_eq_nil_of_le (by omega)]; rfl
        rw [this] at q5
        rw [q5]
        simp
def unV : V → Nd
  | .st [.val (.int .i64 a), .str k, .str t, .bb w, .val (.int .i64 b), .val (.int .i64 c)] => ⟨a, k, t, w, b, c⟩
  | _ => default
def unN (l : List V) : List Nd := l.map unV
theorem unN_nds (v : List Nd) : unN (nds v) = v := by
  unfold unN nds
  rw [List.map_map]
  exact List.map_id'' (fun n => rfl) v
/-- What begins at a place, told by its place. -/
def posF (v : List Nd) : Option (List Nd) → Int
  | none => -1
  | some m => (v.length : Int) - m.length
def JMf : FuncId → List V → Option (List Prop × Bool × V) := fun f args =>
  if f = 15 then match args with
    | [.sq 6 d l, .val (.int .i64 a)] => some ([d = ndD, l = nds (unN l), Few (unN l)], false, .i (behI (unN l) a))
    | _ => none
  else none
def JMs (J : Inv) : Sig := ⟨J, jdf, JMf, noH, 0⟩
theorem JMs_ok (J : Inv) : SigOk Tryd.prog (JMs J) := by
  refine .plain fun f args l fr r h hl => ?_
  change JMf f args = some (l, fr, r) at h
  unfold JMf at h
  split at h
  · rename_i hf; subst hf
    split at h
    · obtain ⟨rfl, rfl, rfl⟩ := jsome_tri h
      have h1 := hl _ (List.mem_cons_self ..)
      have h2 := hl _ (List.mem_cons_of_mem _ (List.mem_cons_self ..))
      have h3 := hl _ (List.mem_cons_of_mem _ (List.mem_cons_of_mem _ (List.mem_cons_self ..)))
      subst h1
      have := jBehind_fn J _ ‹Int› h3
      unfold ndsV at this
      rw [← h2] at this
      exact this
    · exact absurd h (by simp)
  · exact absurd h (by simp)
theorem jMember_fn (J : Inv) (v : List Nd) (a : Nat) (key : List UInt8) (hv : Few v) (ha : a < v.length) (t1 : List Nd → Option (List Nd)) (ht : Goes t1) (obj : Bool) (r : List Nd) (h7 : (v.getD a default).kind = 7) (hr : takeK t1 obj (v.getD a default).kids.toNat [] (v.drop (a + 1)) = some r) :
    Fn Tryd.prog J 10 false [ndsV v, .i a, .str key] (.i (posF v (memF t1 key (v.getD a default).kids.toNat (v.drop (a + 1))))) := by
  have hl := hv.1
  obtain ⟨e1, e2⟩ := hv.at ha
  refine fn_intro Tryd.func10 rfl (by kernel_rfl) (Nat.le_of_ble_eq_true (by kernel_rfl)) (by kernel_rfl) (by kernel_rfl) rfl (JMs_ok J) ?_
  unfold Tryd.f10
  simp only [eqC, vlook, vmark, seqN, sameBox, boxJs, vquietR, vopsR, RetC, retW, cellR, undV, vgA, vbinN, vnn, isNilC, isIf, vconvH, vconvO, cvOk, frz1, frzE, jsOk, jsCo, rowsH, vgcH, vgH, vopsT, stepE, Kseq_app, vg_skip, vg_label, vg_seq, vg_region, vg_cond, vg_block, vg_exit, vg_ret, vg_loop, vcallF, vcallH, uls, HdelK, memN, noBox, ninL, keysH, jsAt, AdSub, adopt, noEl, isNil, effL, effO, vopsD, vquiet, vfstD, ldq, ldOk, vops, vfst, vone, vact, ug, addL, vbox, valloc, vstore, vbuild, arrF, vbuildSlice, vappend, vmake, zeroS, zeroE, vstrB, apC, nrm, nr1, nrL, keyL, neqs, diffs, V.app, V.len, vsrc, vdst, mkSl, mkBy, inOrd, placeAll, V.one, V.sto, V.csize, V.parts, V.cellsL, setMany, V.setB, V.setE, V.setO, V.noOwn, V.isOwn, vq, vcall, fzA, fz, fz1, fzL, fzN, rts, rt1, V.er, er1, er2, mixA, mixK, uargs, u1, R.add, vop, vbin, vint2, vstr2, vbool2, vnum, vun, vpick, vpick1, vbool, vconv, vnil, vfieldAddr, vindexAddr, vstEq, vindex, vload, vfield, aggD, vslice, bnd, uopt, vlen, vmin, vextract, Hpk, Hroot, refV, ownR, V.i, V.elems, V.cell, V.cut, V.exact, V.ex0, exL, V.cl, clL, V.sc, scL, scO, scH, V.ct, ct1, ct2, RetP, RetK, RetH, retL, retOne, Back, Veq, subH, obs, obsIf, En.get, En.put, En.ev, enOf, gcond, wantB, constV, exGet, subE, Sub, RV, RVL, NR, RO, subER, subHR, newLt, oldNe, oldOk, oldGe, notIn, ivN, lookN, SubR, Nm.root, Nat.reduceMul, Nat.reduceLeDiff, Nat.reduceEqDiff, Nat.reduceLT, Nat.reduceAdd, Nat.reduceSub, ↓reduceIte, implies_true, reduceCtorEq, ne_eq, ↓shr_eq, IntKind.bits, Int.reduceToNat, Int.reducePow, dite_eq_ite, Value.oneCell', Nat.reduceBEq, Nat.reduceDiv, bnS, bnN, bnT, jsB, JMs, JMf, ndsV, ndD, jdf]
  refine ⟨fun _ => by omega, fun _ => by omega, fun h => ?_, fun h => ⟨by constructor <;> omega, ?_⟩⟩
  · simp only [h7] at h
    simp at h
    omega
  · refine LoopC.intro (α := Nat × Nat × List (List UInt8)) (fun y => y.1 ≤ (v.getD a default).kids.toNat ∧ y.2.1 ≤ v.length ∧ takeK t1 obj ((v.getD a default).kids.toNat - y.1) y.2.2 (v.drop y.2.1) = some r ∧ memF t1 key ((v.getD a default).kids.toNat - y.1) (v.drop y.2.1) = memF t1 key (v.getD a default).kids.toNat (v.drop (a + 1)))
      (fun y => ⟨[(0, ndsV v), (1, .i a), (2, .str key), (8, .i y.1), (7, .i y.2.1)], [], 0⟩) (fun y => (v.getD a default).kids.toNat - y.1) (0, a + 1, []) ⟨Nat.zero_le _, by simp only; omega, hr, rfl⟩ ?_ ?_
    · simp only [eqC, vlook, vmark, seqN, sameBox, boxJs, vquietR, vopsR, RetC, retW, cellR, undV, vgA, vbinN, vnn, isNilC, isIf, vconvH, vconvO, cvOk, frz1, frzE, jsOk, jsCo, rowsH, vgcH, vgH, vopsT, stepE, Kseq_app, vg_skip, vg_label, vg_seq, vg_region, vg_cond, vg_block, vg_exit, vg_ret, vg_loop, vcallF, vcallH, uls, HdelK, memN, noBox, ninL, keysH, jsAt, AdSub, adopt, noEl, isNil, effL, effO, vopsD, vquiet, vfstD, ldq, ldOk, vops, vfst, vone, vact, ug, addL, vbox, valloc, vstore, vbuild, arrF, vbuildSlice, vappend, vmake, zeroS, zeroE, vstrB, apC, nrm, nr1, nrL, keyL, neqs, diffs, V.app, V.len, vsrc, vdst, mkSl, mkBy, inOrd, placeAll, V.one, V.sto, V.csize, V.parts, V.cellsL, setMany, V.setB, V.setE, V.setO, V.noOwn, V.isOwn, vq, vcall, fzA, fz, fz1, fzL, fzN, rts, rt1, V.er, er1, er2, mixA, mixK, uargs, u1, R.add, vop, vbin, vint2, vstr2, vbool2, vnum, vun, vpick, vpick1, vbool, vconv, vnil, vfieldAddr, vindexAddr, vstEq, vindex, vload, vfield, aggD, vslice, bnd, uopt, vlen, vmin, vextract, Hpk, Hroot, refV, ownR, V.i, V.elems, V.cell, V.cut, V.exact, V.ex0, exL, V.cl, clL, V.sc, scL, scO, scH, V.ct, ct1, ct2, RetP, RetK, RetH, retL, retOne, Back, Veq, subH, obs, obsIf, En.get, En.put, En.ev, enOf, gcond, wantB, constV, exGet, subE, Sub, RV, RVL, NR, RO, subER, subHR, newLt, oldNe, oldOk, oldGe, notIn, ivN, lookN, SubR, Nm.root, Nat.reduceMul, Nat.reduceLeDiff, Nat.reduceEqDiff, Nat.reduceLT, Nat.reduceAdd, Nat.reduceSub, ↓reduceIte, implies_true, reduceCtorEq, ne_eq, ↓shr_eq, IntKind.bits, Int.reduceToNat, Int.reducePow, dite_eq_ite, Value.oneCell', Nat.reduceBEq, Nat.reduceDiv, bnS, bnN, bnT, jsB, ndsV, ndD]
      omega
    · rintro ⟨i, k, ns⟩ ⟨q1, q2, q3, q4⟩
      simp only at q1 q2 q3 q4
      simp only [eqC, vlook, vmark, seqN, sameBox, boxJs, vquietR, vopsR, RetC, retW, cellR, undV, vgA, vbinN, vnn, isNilC, isIf, vconvH, vconvO, cvOk, frz1, frzE, jsOk, jsCo, rowsH, vgcH, vgH, vopsT, stepE, Kseq_app, vg_skip, vg_label, vg_seq, vg_region, vg_cond, vg_block, vg_exit, vg_ret, vg_loop, vcallF, vcallH, uls, HdelK, memN, noBox, ninL, keysH, jsAt, AdSub, adopt, noEl, isNil, effL, effO, vopsD, vquiet, vfstD, ldq, ldOk, vops, vfst, vone, vact, ug, addL, vbox, valloc, vstore, vbuild, arrF, vbuildSlice, vappend, vmake, zeroS, zeroE, vstrB, apC, nrm, nr1, nrL, keyL, neqs, diffs, V.app, V.len, vsrc, vdst, mkSl, mkBy, inOrd, placeAll, V.one, V.sto, V.csize, V.parts, V.cellsL, setMany, V.setB, V.setE, V.setO, V.noOwn, V.isOwn, vq, vcall, fzA, fz, fz1, fzL, fzN, rts, rt1, V.er, er1, er2, mixA, mixK, uargs, u1, R.add, vop, vbin, vint2, vstr2, vbool2, vnum, vun, vpick, vpick1, vbool, vconv, vnil, vfieldAddr, vindexAddr, vstEq, vindex, vload, vfield, aggD, vslice, bnd, uopt, vlen, vmin, vextract, Hpk, Hroot, refV, ownR, V.i, V.elems, V.cell, V.cut, V.exact, V.ex0, exL, V.cl, clL, V.sc, scL, scO, scH, V.ct, ct1, ct2, RetP, RetK, RetH, retL, retOne, Back, Veq, subH, obs, obsIf, En.get, En.put, En.ev, enOf, gcond, wantB, constV, exGet, subE, Sub, RV, RVL, NR, RO, subER, subHR, newLt, oldNe, oldOk, oldGe, notIn, ivN, lookN, SubR, Nm.root, Nat.reduceMul, Nat.reduceLeDiff, Nat.reduceEqDiff, Nat.reduceLT, Nat.reduceAdd, Nat.reduceSub, ↓reduceIte, implies_true, reduceCtorEq, ne_eq, ↓shr_eq, IntKind.bits, Int.reduceToNat, Int.reducePow, dite_eq_ite, Value.oneCell', Nat.reduceBEq, Nat.reduceDiv, bnS, bnN, bnT, jsB, JMs, JMf, ndsV, ndD, jdf, unN_nds]
      refine ⟨by omega, by omega, fun h5 => ?_, fun h5 => ?_⟩
      · simp only [Bool.and_eq_true, decide_eq_true_eq] at h5
        have hk : k < v.length := by omega
        obtain ⟨q, hq⟩ : ∃ q, (v.getD a default).kids.toNat - i = q + 1 := ⟨(v.getD a default).kids.toNat - i - 1, by omega⟩
        have hq2 : (v.getD a default).kids.toNat - (i + 1) = q := by omega
        rw [hq, nd_drop hk] at q3 q4
        simp only [takeK] at q3
        simp only [memF] at q4
        refine ⟨by omega, by omega, fun h6 => ?_, fun h6 => ?_⟩
        · rw [if_pos (by simpa using h6)] at q4
          rw [← q4]
          simp only [posF, List.length_cons, List.length_drop]
          omega
        · rw [if_neg (by simpa using h6)] at q4
          cases hr1 : t1 (v.getD k default :: v.drop (k + 1)) with
          | none => rw [hr1] at q3; cases q3
          | some r1 =>
            rw [hr1] at q3 q4
            simp only at q3 q4
            split at q3
            · cases q3
            · rw [← nd_drop hk] at hr1
              obtain ⟨g1, g2, g3⟩ := ht _ _ hr1
              have g4 := g3 0 (by omega)
              rw [behP_0] at g4
              simp only [List.length_drop, Int.zero_add, Nat.add_zero] at g1 g2 g4
              rw [List.drop_drop] at g2
              have hb : behI v k = ((v.length - r1.length : Nat) : Int) := by
                unfold behI
                rw [if_neg (by omega), Int.toNat_natCast, g4]
                omega
              have hd : v.drop (v.length - r1.length) = r1 := by
                rw [← g2]
                congr 1
                simp only [List.length_drop]
                omega
              rw [hb]
              refine ⟨hv, by constructor <;> omega, Again.intro (i + 1, v.length - r1.length, ns ++ [(v.getD k default).key]) ⟨by simp only; omega, by simp only; omega, by simp only; rw [hq2, hd]; exact q3, by simp only; rw [hq2, hd]; exact q4⟩ (by simp only; omega) ?_⟩
              simp only [eqC, vlook, vmark, seqN, sameBox, boxJs, vquietR, vopsR, RetC, retW, cellR, undV, vgA, vbinN, vnn, isNilC, isIf, vconvH, vconvO, cvOk, frz1, frzE, jsOk, jsCo, rowsH, vgcH, vgH, vopsT, stepE, Kseq_app, vg_skip, vg_label, vg_seq, vg_region, vg_cond, vg_block, vg_exit, vg_ret, vg_loop, vcallF, vcallH, uls, HdelK, memN, noBox, ninL, keysH, jsAt, AdSub, adopt, noEl, isNil, effL, effO, vopsD, vquiet, vfstD, ldq, ldOk, vops, vfst, vone, vact, ug, addL, vbox, valloc, vstore, vbuild, arrF, vbuildSlice, vappend, vmake, zeroS, zeroE, vstrB, apC, nrm, nr1, nrL, keyL, neqs, diffs, V.app, V.len, vsrc, vdst, mkSl, mkBy, inOrd, placeAll, V.one, V.sto, V.csize, V.parts, V.cellsL, setMany, V.setB, V.setE, V.setO, V.noOwn, V.isOwn, vq, vcall, fzA, fz, fz1, fzL, fzN, rts, rt1, V.er, er1, er2, mixA, mixK, uargs, u1, R.add, vop, vbin, vint2, vstr2, vbool2, vnum, vun, vpick, vpick1, vbool, vconv, vnil, vfieldAddr, vindexAddr, vstEq, vindex, vload, vfield, aggD, vslice, bnd, uopt, vlen, vmin, vextract, Hpk, Hroot, refV, ownR, V.i, V.elems, V.cell, V.cut, V.exact, V.ex0, exL, V.cl, clL, V.sc, scL, scO, scH, V.ct, ct1, ct2, RetP, RetK, RetH, retL, retOne, Back, Veq, subH, obs, obsIf, En.get, En.put, En.ev, enOf, gcond, wantB, constV, exGet, subE, Sub, RV, RVL, NR, RO, subER, subHR, newLt, oldNe, oldOk, oldGe, notIn, ivN, lookN, SubR, Nm.root, Nat.reduceMul, Nat.reduceLeDiff, Nat.reduceEqDiff, Nat.reduceLT, Nat.reduceAdd, Nat.reduceSub, ↓reduceIte, implies_true, reduceCtorEq, ne_eq, ↓shr_eq, IntKind.bits, Int.reduceToNat, Int.reducePow, dite_eq_ite, Value.oneCell', Nat.reduceBEq, Nat.reduceDiv, bnS, bnN, bnT, jsB, ndsV, ndD]
              omega
      · simp only [Bool.and_eq_false_iff, decide_eq_false_iff_not] at h5
        have hz : (v.getD a default).kids.toNat - i = 0 := by
          rcases h5 with (h5 | h5) | h5
          · omega
          · omega
          · obtain rfl : k = v.length := by omega
            rw [List.drop_length] at q3
            cases hz : (v.getD a default).kids.toNat - i with
            | zero => rfl
            | succ q => rw [hz] at q3; cases q3
        rw [hz] at q4
        simp only [memF] at q4
        rw [← q4]
        rfl
end Go.Proofs.YtbjfhnbgiajnjaaDoor
