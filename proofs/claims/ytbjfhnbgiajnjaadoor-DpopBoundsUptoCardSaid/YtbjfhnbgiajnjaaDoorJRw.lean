/- The document's whole number of a text: the walk; one division, of a number below nought, is shown by hand. -/
import Derived.Test.YtbjfhnbgiajnjaaDoorJRl
import Derived.Test.YtbjfhnbgiajnjaaDoorJTake
import Derived.Test.YtbjfhnbgiajnjaaDoorWpc
namespace Go.Proofs.YtbjfhnbgiajnjaaDoor
open Go.RowKit
set_option linter.unusedSimpArgs false
set_option maxRecDepth 100000
noncomputable def wB : Code := (Tryd.f26).body.getD .skip
noncomputable def wL : Code := jL (jR (jR (jR (jR wB))))
noncomputable def wT : Code := jR (jR (jR (jR (jR wB))))
noncomputable def wI : Code := jR (jR (jR wL))
noncomputable def wJ : Code := jR (jL (jR wI))
noncomputable def w9 : Code := jL (jL (jR wJ))
theorem wB_eq : (Tryd.f26).body = some (.seq (jL wB) (.seq (jL (jR wB)) (.seq (jL (jR (jR wB))) (.seq (jL (jR (jR (jR wB)))) (.seq (.seq (jL wL) (.block 0 (.loop wI))) wT))))) := by kernel_rfl
theorem wI_eq : wI = .seq (jL wI) (.seq (.block 1 (.seq (jL wJ) (.seq (.seq w9 (jR (jL (jR wJ)))) (jR (jR wJ))))) (jR (jR wI))) := by kernel_rfl
def JQf : FuncId → List V → Option (List Prop × Bool × V) := fun f args =>
  if f = 33 then match args with
    | [.str s] => some ([s.length ≤ 1073741824], false, .tu [rV (rrF s), .bb (rrF s).ok])
    | _ => none
  else none
def JQ (J : Inv) : Sig := ⟨J, jdf, JQf, noH, 0⟩
theorem JQ_ok (J : Inv) : SigOk Tryd.prog (JQ J) := by
  refine .plain fun f args l fr r h hl => ?_
  change JQf f args = some (l, fr, r) at h
  unfold JQf at h
  split at h
  · rename_i hf; subst hf
    split at h
    · obtain ⟨rfl, rfl, rfl⟩ := jsome_tri h; exact rRead_fn J _ (hl _ (by simp))
    · exact absurd h (by simp)
  · exact absurd h (by simp)
/-- What Whole's loop knows. -/
abbrev wS (s W : List UInt8) (m : Bool) (i v : Nat) : S := ⟨[(7, .i i), (6, .i (-(v : Int))), (4, .op 0 0), (0, .str s)], [(0, .box 72 (.st [.bb m, .any, .any, .any, .any, .bb true, .str W]))], 1⟩
section
variable {x : Fx} {F : Cx} {w : World} {a : Act}
theorem w9_ok (J : Inv) (hj : x.J = J) (hn : x.n = Tryd.f26.ntmps) {s W : List UInt8} {m : Bool} {i v : Nat} {d : Int} {Q : Exit → Act → World → Prop} (hs : Sat x ⟨(8, .i d) :: (wS s W m i v).e, (wS s W m i v).h, 1⟩ F a w) (hd : 0 ≤ d ∧ d ≤ 9)
    (hQ : ∀ F a w, Sat x ⟨(38, .bb (decide ((9223372036854775808 - d) / 10 < (v : Int)))) :: (8, .i d) :: (wS s W m i v).e, (wS s W m i v).h, 1⟩ F a w → Q .normal a w) : w9.wp Tryd.prog Q a w := by
  simp only [w9, wJ, wI, wL, wB, jL, jR, Tryd.f26, Option.getD_some]
  refine wp_region_list ?_
  show wpList Tryd.prog _ Q ([_, _, _] ++ [_, _]) a w
  refine vopsL_ok (G := JQ J) (K := Nxt x fun F a w => wpList Tryd.prog _ Q [_, _] a w) (JQ_ok J) hj _ (fun s' F' a' w' h' hs' => h' F' a' w' hs') _ _ F a w (by rw [hn]; exact dsts_of (by kernel_rfl)) ?_ hs
  simp only [eqC, vlook, vmark, seqN, sameBox, boxJs, vquietR, vopsR, RetC, retW, cellR, undV, vgA, vbinN, vnn, isNilC, isIf, vconvH, vconvO, cvOk, frz1, frzE, jsOk, jsCo, rowsH, vgcH, vgH, vopsT, stepE, Kseq_app, vg_skip, vg_label, vg_seq, vg_region, vg_cond, vg_block, vg_exit, vg_ret, vg_loop, vcallF, vcallH, uls, HdelK, memN, noBox, ninL, keysH, jsAt, AdSub, adopt, noEl, isNil, effL, effO, vopsD, vquiet, vfstD, ldq, ldOk, vops, vfst, vone, vact, ug, addL, vbox, valloc, vstore, vbuild, arrF, vbuildSlice, vappend, vmake, zeroS, zeroE, vstrB, apC, nrm, nr1, nrL, keyL, neqs, diffs, V.app, V.len, vsrc, vdst, mkSl, mkBy, inOrd, placeAll, V.one, V.sto, V.csize, V.parts, V.cellsL, setMany, V.setB, V.setE, V.setO, V.noOwn, V.isOwn, vq, vcall, fzA, fz, fz1, fzL, fzN, rts, rt1, V.er, er1, er2, mixA, mixK, uargs, u1, R.add, vop, vbin, vint2, vstr2, vbool2, vnum, vun, vpick, vpick1, vbool, vconv, vnil, vfieldAddr, vindexAddr, vstEq, vindex, vload, vfield, aggD, vslice, bnd, uopt, vlen, vmin, vextract, Hpk, Hroot, refV, ownR, V.i, V.elems, V.cell, V.cut, V.exact, V.ex0, exL, V.cl, clL, V.sc, scL, scO, scH, V.ct, ct1, ct2, RetP, RetK, RetH, retL, retOne, Back, Veq, subH, obs, obsIf, En.get, En.put, En.ev, enOf, gcond, wantB, constV, exGet, subE, Sub, RV, RVL, NR, RO, subER, subHR, newLt, oldNe, oldOk, oldGe, notIn, ivN, lookN, SubR, Nm.root, Nat.reduceMul, Nat.reduceLeDiff, Nat.reduceEqDiff, Nat.reduceLT, Nat.reduceAdd, Nat.reduceSub, ↓reduceIte, implies_true, reduceCtorEq, ne_eq, ↓shr_eq, IntKind.bits, Int.reduceToNat, Int.reducePow, dite_eq_ite, Value.oneCell', Nat.reduceBEq, Nat.reduceDiv, bnS, bnN, bnT, jsB, JQ, JQf]
  refine ⟨by constructor <;> omega, fun F5 a5 w5 hs5 => ?_⟩
  have e36 : a5.eval (.tmp 36) = .int .i64 (-9223372036854775808 + d) := rep_val (hs5.env 36 _ rfl).2
  have hq : (IntKind.i64.wrap ((-9223372036854775808 + d).tdiv 10)) = -((9223372036854775808 - d) / 10) := by
    have h1 : (-9223372036854775808 + d).tdiv 10 = -((9223372036854775808 - d).tdiv 10) := by rw [← Int.neg_tdiv]; congr 1; omega
    rw [h1, Int.tdiv_eq_ediv_of_nonneg (by omega), IntKind.wrap_i64]
    omega
  refine wpList_plain rfl fun K' hK' => ?_
  refine wp_bin rfl (by simp [eqGuard]) (y := .int .i64 (-((9223372036854775808 - d) / 10))) ?_ (hK' _ _ ?_)
  · rw [e36]
    show (binOp .quo 2 (.int .i64 (-9223372036854775808 + d)) (.int .i64 10)).run Tryd.prog w5 = _
    simp [binOp, Op.intDiv, hq]
  clear hK' K'
  have hs6 := hs5.put (d := some 37) (v := .val (.int .i64 (-((9223372036854775808 - d) / 10)))) (fun k hk => by cases hk; rw [hn]; exact Nat.le_of_ble_eq_true (by kernel_rfl)) (.val _)
  refine vops_ok (G := JQ J) (K := Nxt x fun F a w => Q .normal a w) (JQ_ok J) hj (fun s' F' a' w' h' hs' => h' F' a' w' hs') _ _ F5 _ w5 (by rw [hn]; exact dsts_of (by kernel_rfl)) ?_ hs6
  simp only [eqC, vlook, vmark, seqN, sameBox, boxJs, vquietR, vopsR, RetC, retW, cellR, undV, vgA, vbinN, vnn, isNilC, isIf, vconvH, vconvO, cvOk, frz1, frzE, jsOk, jsCo, rowsH, vgcH, vgH, vopsT, stepE, Kseq_app, vg_skip, vg_label, vg_seq, vg_region, vg_cond, vg_block, vg_exit, vg_ret, vg_loop, vcallF, vcallH, uls, HdelK, memN, noBox, ninL, keysH, jsAt, AdSub, adopt, noEl, isNil, effL, effO, vopsD, vquiet, vfstD, ldq, ldOk, vops, vfst, vone, vact, ug, addL, vbox, valloc, vstore, vbuild, arrF, vbuildSlice, vappend, vmake, zeroS, zeroE, vstrB, apC, nrm, nr1, nrL, keyL, neqs, diffs, V.app, V.len, vsrc, vdst, mkSl, mkBy, inOrd, placeAll, V.one, V.sto, V.csize, V.parts, V.cellsL, setMany, V.setB, V.setE, V.setO, V.noOwn, V.isOwn, vq, vcall, fzA, fz, fz1, fzL, fzN, rts, rt1, V.er, er1, er2, mixA, mixK, uargs, u1, R.add, vop, vbin, vint2, vstr2, vbool2, vnum, vun, vpick, vpick1, vbool, vconv, vnil, vfieldAddr, vindexAddr, vstEq, vindex, vload, vfield, aggD, vslice, bnd, uopt, vlen, vmin, vextract, Hpk, Hroot, refV, ownR, V.i, V.elems, V.cell, V.cut, V.exact, V.ex0, exL, V.cl, clL, V.sc, scL, scO, scH, V.ct, ct1, ct2, RetP, RetK, RetH, retL, retOne, Back, Veq, subH, obs, obsIf, En.get, En.put, En.ev, enOf, gcond, wantB, constV, exGet, subE, Sub, RV, RVL, NR, RO, subER, subHR, newLt, oldNe, oldOk, oldGe, notIn, ivN, lookN, SubR, Nm.root, Nat.reduceMul, Nat.reduceLeDiff, Nat.reduceEqDiff, Nat.reduceLT, Nat.reduceAdd, Nat.reduceSub, ↓reduceIte, implies_true, reduceCtorEq, ne_eq, ↓shr_eq, IntKind.bits, Int.reduceToNat, Int.reducePow, dite_eq_ite, Value.oneCell', Nat.reduceBEq, Nat.reduceDiv, bnS, bnN, bnT, jsB, JQ, JQf]
  intro F8 a8 w8 hs8
  refine hQ F8 a8 w8 (hs8.sub ?_)
  simp only [eqC, vlook, vmark, seqN, sameBox, boxJs, vquietR, vopsR, RetC, retW, cellR, undV, vgA, vbinN, vnn, isNilC, isIf, vconvH, vconvO, cvOk, frz1, frzE, jsOk, jsCo, rowsH, vgcH, vgH, vopsT, stepE, Kseq_app, vg_skip, vg_label, vg_seq, vg_region, vg_cond, vg_block, vg_exit, vg_ret, vg_loop, vcallF, vcallH, uls, HdelK, memN, noBox, ninL, keysH, jsAt, AdSub, adopt, noEl, isNil, effL, effO, vopsD, vquiet, vfstD, ldq, ldOk, vops, vfst, vone, vact, ug, addL, vbox, valloc, vstore, vbuild, arrF, vbuildSlice, vappend, vmake, zeroS, zeroE, vstrB, apC, nrm, nr1, nrL, keyL, neqs, diffs, V.app, V.len, vsrc, vdst, mkSl, mkBy, inOrd, placeAll, V.one, V.sto, V.csize, V.parts, V.cellsL, setMany, V.setB, V.setE, V.setO, V.noOwn, V.isOwn, vq, vcall, fzA, fz, fz1, fzL, fzN, rts, rt1, V.er, er1, er2, mixA, mixK, uargs, u1, R.add, vop, vbin, vint2, vstr2, vbool2, vnum, vun, vpick, vpick1, vbool, vconv, vnil, vfieldAddr, vindexAddr, vstEq, vindex, vload, vfield, aggD, vslice, bnd, uopt, vlen, vmin, vextract, Hpk, Hroot, refV, ownR, V.i, V.elems, V.cell, V.cut, V.exact, V.ex0, exL, V.cl, clL, V.sc, scL, scO, scH, V.ct, ct1, ct2, RetP, RetK, RetH, retL, retOne, Back, Veq, subH, obs, obsIf, En.get, En.put, En.ev, enOf, gcond, wantB, constV, exGet, subE, Sub, RV, RVL, NR, RO, subER, subHR, newLt, oldNe, oldOk, oldGe, notIn, ivN, lookN, SubR, Nm.root, Nat.reduceMul, Nat.reduceLeDiff, Nat.reduceEqDiff, Nat.reduceLT, Nat.reduceAdd, Nat.reduceSub, ↓reduceIte, implies_true, reduceCtorEq, ne_eq, ↓shr_eq, IntKind.bits, Int.reduceToNat, Int.reducePow, dite_eq_ite, Value.oneCell', Nat.reduceBEq, Nat.reduceDiv, bnS, bnN, bnT, jsB]
  rw [decide_eq_decide]; omega
/-- What Whole's loop comes to. -/
def wRes (m : Bool) (o : Option Nat) : Int × Bool := match o with
  | none => (0, false)
  | some v => if m = false ∧ v = 9223372036854775808 then (0, false) else (if m = true then -(v : Int) else v, true)
abbrev KoW (r : Int × Bool) : Ko := ⟨RetH [.tmp 2, .tmp 3] (.tu [.i r.1, .bb r.2]) [] 1, RetH [.tmp 2, .tmp 3] (.tu [.i r.1, .bb r.2]) [] 1, []⟩
theorem wT_ok (J : Inv) {s W : List UInt8} {m : Bool} {v : Nat} (hv : v ≤ 9223372036854775808) : vg Tryd.prog (JQ J) wT (wS s W m W.length v) (KoW (wRes m (some v))) := by
  simp only [wT, wB, jL, jR, Tryd.f26, Option.getD_some]
  simp only [eqC, vlook, vmark, seqN, sameBox, boxJs, vquietR, vopsR, RetC, retW, cellR, undV, vgA, vbinN, vnn, isNilC, isIf, vconvH, vconvO, cvOk, frz1, frzE, jsOk, jsCo, rowsH, vgcH, vgH, vopsT, stepE, Kseq_app, vg_skip, vg_label, vg_seq, vg_region, vg_cond, vg_block, vg_exit, vg_ret, vg_loop, vcallF, vcallH, uls, HdelK, memN, noBox, ninL, keysH, jsAt, AdSub, adopt, noEl, isNil, effL, effO, vopsD, vquiet, vfstD, ldq, ldOk, vops, vfst, vone, vact, ug, addL, vbox, valloc, vstore, vbuild, arrF, vbuildSlice, vappend, vmake, zeroS, zeroE, vstrB, apC, nrm, nr1, nrL, keyL, neqs, diffs, V.app, V.len, vsrc, vdst, mkSl, mkBy, inOrd, placeAll, V.one, V.sto, V.csize, V.parts, V.cellsL, setMany, V.setB, V.setE, V.setO, V.noOwn, V.isOwn, vq, vcall, fzA, fz, fz1, fzL, fzN, rts, rt1, V.er, er1, er2, mixA, mixK, uargs, u1, R.add, vop, vbin, vint2, vstr2, vbool2, vnum, vun, vpick, vpick1, vbool, vconv, vnil, vfieldAddr, vindexAddr, vstEq, vindex, vload, vfield, aggD, vslice, bnd, uopt, vlen, vmin, vextract, Hpk, Hroot, refV, ownR, V.i, V.elems, V.cell, V.cut, V.exact, V.ex0, exL, V.cl, clL, V.sc, scL, scO, scH, V.ct, ct1, ct2, RetP, RetK, RetH, retL, retOne, Back, Veq, subH, obs, obsIf, En.get, En.put, En.ev, enOf, gcond, wantB, constV, exGet, subE, Sub, RV, RVL, NR, RO, subER, subHR, newLt, oldNe, oldOk, oldGe, notIn, ivN, lookN, SubR, Nm.root, Nat.reduceMul, Nat.reduceLeDiff, Nat.reduceEqDiff, Nat.reduceLT, Nat.reduceAdd, Nat.reduceSub, ↓reduceIte, implies_true, reduceCtorEq, ne_eq, ↓shr_eq, IntKind.bits, Int.reduceToNat, Int.reducePow, dite_eq_ite, Value.oneCell', Nat.reduceBEq, Nat.reduceDiv, bnS, bnN, bnT, jsB, JQ, JQf]
  have e : wRes m (some v) = if m = false ∧ v = 9223372036854775808 then (0, false) else (if m = true then -(v : Int) else v, true) := rfl
  rw [e]
  refine ⟨fun hm => ?_, fun hm => ⟨fun hc => ?_, fun hc => ?_⟩⟩
  · rw [hm]; simp
  · have : v = 9223372036854775808 := by
      have : -(v : Int) = -9223372036854775808 := by simpa using hc
      omega
    rw [if_pos ⟨hm, this⟩]; exact ⟨rfl, rfl⟩
  · have : v ≠ 9223372036854775808 := by
      intro h; rw [h] at hc; exact absurd hc (by decide)
    rw [if_neg (fun h => this h.2), if_neg (by rw [hm]; decide)]
    exact ⟨by constructor <;> omega, by simp, rfl⟩
theorem wI_ok (J : Inv) (hj : x.J = J) (hn : x.n = Tryd.f26.ntmps) (hb : ∀ m : Nm, x.C.O m = none ∧ x.C.W m = none) {s W : List UInt8} {m : Bool} {r : Int × Bool} {Q : Exit → Act → World → Prop} (hw : r = wRes m (accF W 0)) (hd : ∀ k, k < W.length → dg (byteAt W k)) (hl : W.length ≤ 1073741824)
    (hs : Sat x (wS s W m 0 0) F a w) (hQ : ∀ v F a w, accF W 0 = some v → v ≤ 9223372036854775808 → Sat x (wS s W m W.length v) F a w → Q .normal a w) (hR : ∀ s F a w, (KoW r).ret s → Sat x s F a w → Q .ret a w) : (Code.block 0 (.loop wI)).wp Tryd.prog Q a w := by
  have hm : Tryd.prog.follows .mixedOrders = true := by kernel_rfl
  refine wp_block ?_
  refine wp_loop_ghost (fun n a w => ∃ i v F, n = W.length - i ∧ i ≤ W.length ∧ v ≤ 9223372036854775808 ∧ accF (W.drop i) v = accF W 0 ∧ Sat x (wS s W m i v) F a w) W.length ⟨0, 0, F, rfl, Nat.zero_le _, by omega, rfl, hs⟩ ?_
  clear hs
  rintro n a w ⟨i, v, F, rfl, h1, h2, h3, hs⟩
  rw [wI_eq]
  refine wp_pc (G := JQ J) (R := fun s' => Sub s' (wS s W m i v) ∧ i < W.length) (Kr := fun _ => False) (ex := [(0, fun s' => Sub s' (wS s W m i v) ∧ i = W.length)]) (JQ_ok J) hj (fun k _ => hb k) hm (by rw [hn]; kernel_rfl) ?_ hs (fun s1 F1 a1 w1 hr1 hs1 => ?_) (fun _ _ _ _ h => h.elim) (fun id k hid s1 F1 a1 w1 hr1 hs1 => ?_)
  · simp only [wI, wL, wB, jL, jR, Tryd.f26, Option.getD_some]
    simp only [eqC, vlook, vmark, seqN, sameBox, boxJs, vquietR, vopsR, RetC, retW, cellR, undV, vgA, vbinN, vnn, isNilC, isIf, vconvH, vconvO, cvOk, frz1, frzE, jsOk, jsCo, rowsH, vgcH, vgH, vopsT, stepE, Kseq_app, vg_skip, vg_label, vg_seq, vg_region, vg_cond, vg_block, vg_exit, vg_ret, vg_loop, vcallF, vcallH, uls, HdelK, memN, noBox, ninL, keysH, jsAt, AdSub, adopt, noEl, isNil, effL, effO, vopsD, vquiet, vfstD, ldq, ldOk, vops, vfst, vone, vact, ug, addL, vbox, valloc, vstore, vbuild, arrF, vbuildSlice, vappend, vmake, zeroS, zeroE, vstrB, apC, nrm, nr1, nrL, keyL, neqs, diffs, V.app, V.len, vsrc, vdst, mkSl, mkBy, inOrd, placeAll, V.one, V.sto, V.csize, V.parts, V.cellsL, setMany, V.setB, V.setE, V.setO, V.noOwn, V.isOwn, vq, vcall, fzA, fz, fz1, fzL, fzN, rts, rt1, V.er, er1, er2, mixA, mixK, uargs, u1, R.add, vop, vbin, vint2, vstr2, vbool2, vnum, vun, vpick, vpick1, vbool, vconv, vnil, vfieldAddr, vindexAddr, vstEq, vindex, vload, vfield, aggD, vslice, bnd, uopt, vlen, vmin, vextract, Hpk, Hroot, refV, ownR, V.i, V.elems, V.cell, V.cut, V.exact, V.ex0, exL, V.cl, clL, V.sc, scL, scO, scH, V.ct, ct1, ct2, RetP, RetK, RetH, retL, retOne, Back, Veq, subH, obs, obsIf, En.get, En.put, En.ev, enOf, gcond, wantB, constV, exGet, subE, Sub, RV, RVL, NR, RO, subER, subHR, newLt, oldNe, oldOk, oldGe, notIn, ivN, lookN, SubR, Nm.root, Nat.reduceMul, Nat.reduceLeDiff, Nat.reduceEqDiff, Nat.reduceLT, Nat.reduceAdd, Nat.reduceSub, ↓reduceIte, implies_true, reduceCtorEq, ne_eq, ↓shr_eq, IntKind.bits, Int.reduceToNat, Int.reducePow, dite_eq_ite, Value.oneCell', Nat.reduceBEq, Nat.reduceDiv, bnS, bnN, bnT, jsB, JQ, JQf]
    refine ⟨fun h => ?_, fun h => ?_⟩ <;> simp at h <;> omega
  · obtain ⟨hsub, hi⟩ := hr1
    have hs1 := hs1.sub hsub
    refine wp_seq (wp_block ?_)
    have hdi := hd i hi
    unfold dg at hdi
    refine wp_pc (G := JQ J) (R := fun s' => Sub s' ⟨(8, .i (byteAt W i - 48)) :: (wS s W m i v).e, (wS s W m i v).h, 1⟩) (Kr := fun _ => False) (ex := []) (JQ_ok J) hj (fun k _ => hb k) hm (by rw [hn]; kernel_rfl) ?_ hs1 (fun s2 F2 a2 w2 hr2 hs2 => ?_) (fun _ _ _ _ h => h.elim) (fun id k hid => by simp [exGet] at hid)
    · simp only [wJ, wI, wL, wB, jL, jR, Tryd.f26, Option.getD_some]
      simp only [eqC, vlook, vmark, seqN, sameBox, boxJs, vquietR, vopsR, RetC, retW, cellR, undV, vgA, vbinN, vnn, isNilC, isIf, vconvH, vconvO, cvOk, frz1, frzE, jsOk, jsCo, rowsH, vgcH, vgH, vopsT, stepE, Kseq_app, vg_skip, vg_label, vg_seq, vg_region, vg_cond, vg_block, vg_exit, vg_ret, vg_loop, vcallF, vcallH, uls, HdelK, memN, noBox, ninL, keysH, jsAt, AdSub, adopt, noEl, isNil, effL, effO, vopsD, vquiet, vfstD, ldq, ldOk, vops, vfst, vone, vact, ug, addL, vbox, valloc, vstore, vbuild, arrF, vbuildSlice, vappend, vmake, zeroS, zeroE, vstrB, apC, nrm, nr1, nrL, keyL, neqs, diffs, V.app, V.len, vsrc, vdst, mkSl, mkBy, inOrd, placeAll, V.one, V.sto, V.csize, V.parts, V.cellsL, setMany, V.setB, V.setE, V.setO, V.noOwn, V.isOwn, vq, vcall, fzA, fz, fz1, fzL, fzN, rts, rt1, V.er, er1, er2, mixA, mixK, uargs, u1, R.add, vop, vbin, vint2, vstr2, vbool2, vnum, vun, vpick, vpick1, vbool, vconv, vnil, vfieldAddr, vindexAddr, vstEq, vindex, vload, vfield, aggD, vslice, bnd, uopt, vlen, vmin, vextract, Hpk, Hroot, refV, ownR, V.i, V.elems, V.cell, V.cut, V.exact, V.ex0, exL, V.cl, clL, V.sc, scL, scO, scH, V.ct, ct1, ct2, RetP, RetK, RetH, retL, retOne, Back, Veq, subH, obs, obsIf, En.get, En.put, En.ev, enOf, gcond, wantB, constV, exGet, subE, Sub, RV, RVL, NR, RO, subER, subHR, newLt, oldNe, oldOk, oldGe, notIn, ivN, lookN, SubR, Nm.root, Nat.reduceMul, Nat.reduceLeDiff, Nat.reduceEqDiff, Nat.reduceLT, Nat.reduceAdd, Nat.reduceSub, ↓reduceIte, implies_true, reduceCtorEq, ne_eq, ↓shr_eq, IntKind.bits, Int.reduceToNat, Int.reducePow, dite_eq_ite, Value.oneCell', Nat.reduceBEq, Nat.reduceDiv, bnS, bnN, bnT, jsB, JQ, JQf]
      refine ⟨by omega, by omega, ?_⟩
      rw [wr_eq, IntKind.wrap_i64]
      omega
    · have hs2 := hs2.sub hr2
      refine wp_seq (wp_seq ?_)
      refine w9_ok J hj hn hs2 (by omega) fun F3 a3 w3 hs3 => ?_
      have hac := acc_cons (v := v) hi
      generalize hdd : byteAt W i - 48 = d at *
      show (jR (jL (jR wJ))).wp Tryd.prog _ a3 w3
      refine vg_ok (G := JQ J) (K := ⟨Kseq Tryd.prog (JQ J) (jR (jR wJ)) ⟨Kseq Tryd.prog (JQ J) (jR (jR wI)) ⟨fun s' => Sub s' (wS s W m (i + 1) (10 * v + d.toNat)) ∧ ¬ (9223372036854775808 - d) / 10 < (v : Int), fun _ => False, []⟩, fun _ => False, []⟩, (KoW r).ret, []⟩) (JQ_ok J) hj (fun k _ => hb k) hm _ _ _ F3 a3 w3 (by rw [hn]; kernel_rfl) ?_ ⟨fun s4 F4 a4 w4 h4 hs4 => ?_, fun s4 F4 a4 w4 h4 hs4 => hR s4 F4 a4 w4 h4 hs4, fun id k hid => by simp [exGet] at hid⟩ hs3
      · simp only [wJ, wI, wL, wB, jL, jR, Tryd.f26, Option.getD_some]
        simp only [eqC, vlook, vmark, seqN, sameBox, boxJs, vquietR, vopsR, RetC, retW, cellR, undV, vgA, vbinN, vnn, isNilC, isIf, vconvH, vconvO, cvOk, frz1, frzE, jsOk, jsCo, rowsH, vgcH, vgH, vopsT, stepE, Kseq_app, vg_skip, vg_label, vg_seq, vg_region, vg_cond, vg_block, vg_exit, vg_ret, vg_loop, vcallF, vcallH, uls, HdelK, memN, noBox, ninL, keysH, jsAt, AdSub, adopt, noEl, isNil, effL, effO, vopsD, vquiet, vfstD, ldq, ldOk, vops, vfst, vone, vact, ug, addL, vbox, valloc, vstore, vbuild, arrF, vbuildSlice, vappend, vmake, zeroS, zeroE, vstrB, apC, nrm, nr1, nrL, keyL, neqs, diffs, V.app, V.len, vsrc, vdst, mkSl, mkBy, inOrd, placeAll, V.one, V.sto, V.csize, V.parts, V.cellsL, setMany, V.setB, V.setE, V.setO, V.noOwn, V.isOwn, vq, vcall, fzA, fz, fz1, fzL, fzN, rts, rt1, V.er, er1, er2, mixA, mixK, uargs, u1, R.add, vop, vbin, vint2, vstr2, vbool2, vnum, vun, vpick, vpick1, vbool, vconv, vnil, vfieldAddr, vindexAddr, vstEq, vindex, vload, vfield, aggD, vslice, bnd, uopt, vlen, vmin, vextract, Hpk, Hroot, refV, ownR, V.i, V.elems, V.cell, V.cut, V.exact, V.ex0, exL, V.cl, clL, V.sc, scL, scO, scH, V.ct, ct1, ct2, RetP, RetK, RetH, retL, retOne, Back, Veq, subH, obs, obsIf, En.get, En.put, En.ev, enOf, gcond, wantB, constV, exGet, subE, Sub, RV, RVL, NR, RO, subER, subHR, newLt, oldNe, oldOk, oldGe, notIn, ivN, lookN, SubR, Nm.root, Nat.reduceMul, Nat.reduceLeDiff, Nat.reduceEqDiff, Nat.reduceLT, Nat.reduceAdd, Nat.reduceSub, ↓reduceIte, implies_true, reduceCtorEq, ne_eq, ↓shr_eq, IntKind.bits, Int.reduceToNat, Int.reducePow, dite_eq_ite, Value.oneCell', Nat.reduceBEq, Nat.reduceDiv, bnS, bnN, bnT, jsB, JQ, JQf]
        refine ⟨fun hc => ?_, fun hc => ?_⟩
        · simp only [decide_eq_true_eq] at hc
          rw [if_pos (by omega)] at hac
          have : r = (0, false) := by rw [hw, ← h3, hac]; rfl
          rw [this]; exact ⟨rfl, rfl⟩
        · simp only [decide_eq_false_iff_not] at hc
          refine ⟨by constructor <;> omega, by constructor <;> omega, by constructor <;> omega, ⟨by omega, by omega⟩, hc⟩
      · show (jR (jR wJ)).wp Tryd.prog _ a4 w4
        refine vg_ok (JQ_ok J) hj (fun k _ => hb k) hm _ _ _ _ F4 a4 w4 (by rw [hn]; kernel_rfl) h4 ⟨fun s5 F5 a5 w5 h5 hs5 => ?_, fun _ _ _ _ h => h.elim, fun id k hid => by simp [exGet] at hid⟩ hs4
        show (jR (jR wI)).wp Tryd.prog _ a5 w5
        refine vg_ok (JQ_ok J) hj (fun k _ => hb k) hm _ _ _ _ F5 a5 w5 (by rw [hn]; kernel_rfl) h5 ⟨fun s6 F6 a6 w6 h6 hs6 => ?_, fun _ _ _ _ h => h.elim, fun id k hid => by simp [exGet] at hid⟩ hs5
        obtain ⟨hsub, hlt⟩ := h6
        refine ⟨W.length - (i + 1), by omega, i + 1, 10 * v + d.toNat, F6, rfl, by omega, by omega, ?_, hs6.sub hsub⟩
        rw [if_neg (by omega)] at hac
        rw [← hac]; exact h3
  · simp only [exGet] at hid
    split at hid
    · rename_i e; subst e
      obtain rfl := Option.some.inj hid
      obtain ⟨hsub, rfl⟩ := hr1
      rw [List.drop_length] at h3
      exact hQ v F1 a1 w1 h3.symm h2 (hs1.sub hsub)
    · cases hid
end
theorem rWhole_own (J : Inv) (s : List UInt8) (hs : s.length ≤ 1073741824) : FnH Tryd.prog J 26 [.str s] [] 0 (.tu [.i (wholeF s).1, .bb (wholeF s).2]) [] 1 := by
  have hm : Tryd.prog.follows .mixedOrders = true := by kernel_rfl
  obtain ⟨hd, hwl⟩ := readF_whole s
  obtain ⟨so, sf⟩ := same_all s
  have hwf : wholeF s = if (readF s).2 = true ∧ (readF s).1.plain = true then wRes (readF s).1.minus (accF (readF s).1.whole 0) else (0, false) := rfl
  generalize wholeF s = r at *
  refine fnH_wp Tryd.func26 wB_eq (by kernel_rfl) (Nat.le_of_ble_eq_true (by kernel_rfl)) fun w0 F0 a0 Q hM hs0 hK => ?_
  have hb : ∀ m : Nm, F0.O m = none ∧ F0.W m = none := fun m => hM.nx m (Nat.zero_le _)
  have hres : Tryd.f26.results.toList = [.tmp 2, .tmp 3] := by kernel_rfl
  rw [hres] at hK
  have hpre : vg Tryd.prog (JQ J) (.seq (jL wB) (.seq (jL (jR wB)) (.seq (jL (jR (jR wB))) (.seq (jL (jR (jR (jR wB)))) (jL wL))))) ⟨enOf 0 [.str s], [], 0⟩ ⟨fun s' => Sub s' (wS s (readF s).1.whole (readF s).1.minus 0 0) ∧ (readF s).2 = true ∧ (readF s).1.plain = true, (KoW r).ret, []⟩ := by
    simp only [wL, wB, jL, jR, Tryd.f26, Option.getD_some]
    simp only [eqC, vlook, vmark, seqN, sameBox, boxJs, vquietR, vopsR, RetC, retW, cellR, undV, vgA, vbinN, vnn, isNilC, isIf, vconvH, vconvO, cvOk, frz1, frzE, jsOk, jsCo, rowsH, vgcH, vgH, vopsT, stepE, Kseq_app, vg_skip, vg_label, vg_seq, vg_region, vg_cond, vg_block, vg_exit, vg_ret, vg_loop, vcallF, vcallH, uls, HdelK, memN, noBox, ninL, keysH, jsAt, AdSub, adopt, noEl, isNil, effL, effO, vopsD, vquiet, vfstD, ldq, ldOk, vops, vfst, vone, vact, ug, addL, vbox, valloc, vstore, vbuild, arrF, vbuildSlice, vappend, vmake, zeroS, zeroE, vstrB, apC, nrm, nr1, nrL, keyL, neqs, diffs, V.app, V.len, vsrc, vdst, mkSl, mkBy, inOrd, placeAll, V.one, V.sto, V.csize, V.parts, V.cellsL, setMany, V.setB, V.setE, V.setO, V.noOwn, V.isOwn, vq, vcall, fzA, fz, fz1, fzL, fzN, rts, rt1, V.er, er1, er2, mixA, mixK, uargs, u1, R.add, vop, vbin, vint2, vstr2, vbool2, vnum, vun, vpick, vpick1, vbool, vconv, vnil, vfieldAddr, vindexAddr, vstEq, vindex, vload, vfield, aggD, vslice, bnd, uopt, vlen, vmin, vextract, Hpk, Hroot, refV, ownR, V.i, V.elems, V.cell, V.cut, V.exact, V.ex0, exL, V.cl, clL, V.sc, scL, scO, scH, V.ct, ct1, ct2, RetP, RetK, RetH, retL, retOne, Back, Veq, subH, obs, obsIf, En.get, En.put, En.ev, enOf, gcond, wantB, constV, exGet, subE, Sub, RV, RVL, NR, RO, subER, subHR, newLt, oldNe, oldOk, oldGe, notIn, ivN, lookN, SubR, Nm.root, Nat.reduceMul, Nat.reduceLeDiff, Nat.reduceEqDiff, Nat.reduceLT, Nat.reduceAdd, Nat.reduceSub, ↓reduceIte, implies_true, reduceCtorEq, ne_eq, ↓shr_eq, IntKind.bits, Int.reduceToNat, Int.reducePow, dite_eq_ite, Value.oneCell', Nat.reduceBEq, Nat.reduceDiv, bnS, bnN, bnT, jsB, JQ, JQf, rV]
    rw [so]
    refine ⟨hs, fun hc => ?_, fun hc => ?_⟩
    · have hn : ¬ ((readF s).2 = true ∧ (readF s).1.plain = true) := by
        rintro ⟨h1, h2⟩
        rw [h1, (sf h1).2.1, h2] at hc; cases hc
      rw [hwf, if_neg hn]; exact ⟨rfl, rfl⟩
    · simp only [Bool.or_eq_false_iff, Bool.not_eq_false'] at hc
      obtain ⟨f1, f2, f3⟩ := sf hc.1
      exact ⟨⟨⟨by simp, by simp⟩, f1, hc.2, f3⟩, hc.1, f2.symm.trans hc.2⟩
  have ret : ∀ s F a w, (KoW r).ret s → Sat (fx0 J w0 F0 [] (Tryd.f26).ntmps) s F a w → Q .ret a w := fun s F a w h hs => hK.ret s F a w h hs
  have noex : ∀ (Q' : Exit → Act → World → Prop) id k, exGet [] id = some k → ∀ s F a w, k s → Sat (fx0 J w0 F0 [] (Tryd.f26).ntmps) s F a w → Q' (.exit id) a w := fun _ id k h => by simp [exGet] at h
  refine wp_pc (JQ_ok J) rfl (fun m _ => hb m) hm (by kernel_rfl) hpre hs0 (fun s1 F1 a1 w1 h1 hs1 => ?_) ret (noex _)
  refine wp_pc (JQ_ok J) rfl (fun m _ => hb m) hm (by kernel_rfl) h1 hs1 (fun s2 F2 a2 w2 h2 hs2 => ?_) ret (noex _)
  refine wp_pc (JQ_ok J) rfl (fun m _ => hb m) hm (by kernel_rfl) h2 hs2 (fun s3 F3 a3 w3 h3 hs3 => ?_) ret (noex _)
  refine wp_pc (JQ_ok J) rfl (fun m _ => hb m) hm (by kernel_rfl) h3 hs3 (fun s4 F4 a4 w4 h4 hs4 => ?_) ret (noex _)
  refine wp_seq ?_
  refine wp_pc (JQ_ok J) rfl (fun m _ => hb m) hm (by kernel_rfl) h4 hs4 (fun s5 F5 a5 w5 h5 hs5 => ?_) ret (noex _)
  obtain ⟨hsub, hok, hpl⟩ := h5
  rw [if_pos ⟨hok, hpl⟩] at hwf
  refine wI_ok J rfl rfl hb hwf hd (by omega) (hs5.sub hsub) (fun v F6 a6 w6 hv hv2 hs6 => ?_) ret
  show wT.wp Tryd.prog Q a6 w6
  rw [hv] at hwf
  subst hwf
  exact vg_ok (JQ_ok J) rfl (fun m _ => hb m) hm _ _ _ _ F6 a6 w6 (by kernel_rfl) (wT_ok J hv2) ⟨fun s F a w h hs => hK.nrm s F a w h hs, ret, noex _⟩ hs6
theorem rWhole_fn (J : Inv) (s : List UInt8) (hs : s.length ≤ 1073741824) : Fn Tryd.prog J 26 false [.str s] (.tu [.i (wholeF s).1, .bb (wholeF s).2]) := Fn.of_plain (rWhole_own J s hs) rfl
theorem rValid_fn (J : Inv) (s : List UInt8) (hs : s.length ≤ 1073741824) : Fn Tryd.prog J 27 false [.str s] (.bb (readF s).2) := by
  refine Fn.of_plain (nx := 1) (post := []) ?_ rfl
  have hk := (same_all s).1
  refine fnH_intro Tryd.func27 rfl (by kernel_rfl) (Nat.le_of_ble_eq_true (by kernel_rfl)) (by kernel_rfl) (by kernel_rfl) (JQ_ok J) rfl ?_
  unfold Tryd.f27
  simp only [eqC, vlook, vmark, seqN, sameBox, boxJs, vquietR, vopsR, RetC, retW, cellR, undV, vgA, vbinN, vnn, isNilC, isIf, vconvH, vconvO, cvOk, frz1, frzE, jsOk, jsCo, rowsH, vgcH, vgH, vopsT, stepE, Kseq_app, vg_skip, vg_label, vg_seq, vg_region, vg_cond, vg_block, vg_exit, vg_ret, vg_loop, vcallF, vcallH, uls, HdelK, memN, noBox, ninL, keysH, jsAt, AdSub, adopt, noEl, isNil, effL, effO, vopsD, vquiet, vfstD, ldq, ldOk, vops, vfst, vone, vact, ug, addL, vbox, valloc, vstore, vbuild, arrF, vbuildSlice, vappend, vmake, zeroS, zeroE, vstrB, apC, nrm, nr1, nrL, keyL, neqs, diffs, V.app, V.len, vsrc, vdst, mkSl, mkBy, inOrd, placeAll, V.one, V.sto, V.csize, V.parts, V.cellsL, setMany, V.setB, V.setE, V.setO, V.noOwn, V.isOwn, vq, vcall, fzA, fz, fz1, fzL, fzN, rts, rt1, V.er, er1, er2, mixA, mixK, uargs, u1, R.add, vop, vbin, vint2, vstr2, vbool2, vnum, vun, vpick, vpick1, vbool, vconv, vnil, vfieldAddr, vindexAddr, vstEq, vindex, vload, vfield, aggD, vslice, bnd, uopt, vlen, vmin, vextract, Hpk, Hroot, refV, ownR, V.i, V.elems, V.cell, V.cut, V.exact, V.ex0, exL, V.cl, clL, V.sc, scL, scO, scH, V.ct, ct1, ct2, RetP, RetK, RetH, retL, retOne, Back, Veq, subH, obs, obsIf, En.get, En.put, En.ev, enOf, gcond, wantB, constV, exGet, subE, Sub, RV, RVL, NR, RO, subER, subHR, newLt, oldNe, oldOk, oldGe, notIn, ivN, lookN, SubR, Nm.root, Nat.reduceMul, Nat.reduceLeDiff, Nat.reduceEqDiff, Nat.reduceLT, Nat.reduceAdd, Nat.reduceSub, ↓reduceIte, implies_true, reduceCtorEq, ne_eq, ↓shr_eq, IntKind.bits, Int.reduceToNat, Int.reducePow, dite_eq_ite, Value.oneCell', Nat.reduceBEq, Nat.reduceDiv, bnS, bnN, bnT, jsB, JQ, JQf, rV]
  refine ⟨hs, RenC.skip ?_⟩
  simp only [eqC, vlook, vmark, seqN, sameBox, boxJs, vquietR, vopsR, RetC, retW, cellR, undV, vgA, vbinN, vnn, isNilC, isIf, vconvH, vconvO, cvOk, frz1, frzE, jsOk, jsCo, rowsH, vgcH, vgH, vopsT, stepE, Kseq_app, vg_skip, vg_label, vg_seq, vg_region, vg_cond, vg_block, vg_exit, vg_ret, vg_loop, vcallF, vcallH, uls, HdelK, memN, noBox, ninL, keysH, jsAt, AdSub, adopt, noEl, isNil, effL, effO, vopsD, vquiet, vfstD, ldq, ldOk, vops, vfst, vone, vact, ug, addL, vbox, valloc, vstore, vbuild, arrF, vbuildSlice, vappend, vmake, zeroS, zeroE, vstrB, apC, nrm, nr1, nrL, keyL, neqs, diffs, V.app, V.len, vsrc, vdst, mkSl, mkBy, inOrd, placeAll, V.one, V.sto, V.csize, V.parts, V.cellsL, setMany, V.setB, V.setE, V.setO, V.noOwn, V.isOwn, vq, vcall, fzA, fz, fz1, fzL, fzN, rts, rt1, V.er, er1, er2, mixA, mixK, uargs, u1, R.add, vop, vbin, vint2, vstr2, vbool2, vnum, vun, vpick, vpick1, vbool, vconv, vnil, vfieldAddr, vindexAddr, vstEq, vindex, vload, vfield, aggD, vslice, bnd, uopt, vlen, vmin, vextract, Hpk, Hroot, refV, ownR, V.i, V.elems, V.cell, V.cut, V.exact, V.ex0, exL, V.cl, clL, V.sc, scL, scO, scH, V.ct, ct1, ct2, RetP, RetK, RetH, retL, retOne, Back, Veq, subH, obs, obsIf, En.get, En.put, En.ev, enOf, gcond, wantB, constV, exGet, subE, Sub, RV, RVL, NR, RO, subER, subHR, newLt, oldNe, oldOk, oldGe, notIn, ivN, lookN, SubR, Nm.root, Nat.reduceMul, Nat.reduceLeDiff, Nat.reduceEqDiff, Nat.reduceLT, Nat.reduceAdd, Nat.reduceSub, ↓reduceIte, implies_true, reduceCtorEq, ne_eq, ↓shr_eq, IntKind.bits, Int.reduceToNat, Int.reducePow, dite_eq_ite, Value.oneCell', Nat.reduceBEq, Nat.reduceDiv, bnS, bnN, bnT, jsB]
  exact hk
/-! ## plain -/
def JYf : FuncId → List V → Option (List Prop × Bool × V) := fun f args =>
  if f = 26 then match args with
    | [.str s] => some ([s.length ≤ 1073741824], false, .tu [.i (wholeF s).1, .bb (wholeF s).2])
    | _ => none
  else if f = 27 then match args with
    | [.str s] => some ([s.length ≤ 1073741824], false, .bb (readF s).2)
    | _ => none
  else if f = 22 then match args with
    | [.str s] => some ([s.length ≤ 140737488355328], false, .bb (Lib.validD s))
    | _ => none
  else none
def JY (J : Inv) : Sig := ⟨J, jdf, JYf, noH, 0⟩
theorem JY_ok (J : Inv) : SigOk Tryd.prog (JY J) := by
  refine .plain fun f args l fr r h hl => ?_
  change JYf f args = some (l, fr, r) at h
  unfold JYf at h
  split at h
  · rename_i hf; subst hf
    split at h
    · obtain ⟨rfl, rfl, rfl⟩ := jsome_tri h; exact rWhole_fn J _ (hl _ (by simp))
    · exact absurd h (by simp)
  · split at h
    · rename_i hf; subst hf
      split at h
      · obtain ⟨rfl, rfl, rfl⟩ := jsome_tri h; exact rValid_fn J _ (hl _ (by simp))
      · exact absurd h (by simp)
    · split at h
      · rename_i hf; subst hf
        split at h
        · obtain ⟨rfl, rfl, rfl⟩ := jsome_tri h; exact utf_fn J _ (hl _ (by simp))
        · exact absurd h (by simp)
      · exact absurd h (by simp)
theorem rPlain_fn (J : Inv) : RpOk J := fun n hl => by
  refine Fn.of_plain (nx := 1) (post := []) ?_ rfl
  have hp : plainF n = if n.kind < 1 ∨ 7 < n.kind ∨ n.kids < 0 ∨ (0 < n.kids ∧ n.kind ≠ 6 ∧ n.kind ≠ 7) then false
    else if n.kind = 4 then (readF n.text).2 && (n.whole == (wholeF n.text).2) && (n.int == (wholeF n.text).1)
    else if n.whole = true ∨ n.int ≠ 0 then false
    else if n.kind = 5 then Lib.validD n.text
    else n.text == [] := rfl
  generalize plainF n = rr at *
  refine fnH_intro Tryd.func21 rfl (by kernel_rfl) (Nat.le_of_ble_eq_true (by kernel_rfl)) (by kernel_rfl) (by kernel_rfl) (JY_ok J) rfl ?_
  unfold Tryd.f21
  simp only [eqC, vlook, vmark, seqN, sameBox, boxJs, vquietR, vopsR, RetC, retW, cellR, undV, vgA, vbinN, vnn, isNilC, isIf, vconvH, vconvO, cvOk, frz1, frzE, jsOk, jsCo, rowsH, vgcH, vgH, vopsT, stepE, Kseq_app, vg_skip, vg_label, vg_seq, vg_region, vg_cond, vg_block, vg_exit, vg_ret, vg_loop, vcallF, vcallH, uls, HdelK, memN, noBox, ninL, keysH, jsAt, AdSub, adopt, noEl, isNil, effL, effO, vopsD, vquiet, vfstD, ldq, ldOk, vops, vfst, vone, vact, ug, addL, vbox, valloc, vstore, vbuild, arrF, vbuildSlice, vappend, vmake, zeroS, zeroE, vstrB, apC, nrm, nr1, nrL, keyL, neqs, diffs, V.app, V.len, vsrc, vdst, mkSl, mkBy, inOrd, placeAll, V.one, V.sto, V.csize, V.parts, V.cellsL, setMany, V.setB, V.setE, V.setO, V.noOwn, V.isOwn, vq, vcall, fzA, fz, fz1, fzL, fzN, rts, rt1, V.er, er1, er2, mixA, mixK, uargs, u1, R.add, vop, vbin, vint2, vstr2, vbool2, vnum, vun, vpick, vpick1, vbool, vconv, vnil, vfieldAddr, vindexAddr, vstEq, vindex, vload, vfield, aggD, vslice, bnd, uopt, vlen, vmin, vextract, Hpk, Hroot, refV, ownR, V.i, V.elems, V.cell, V.cut, V.exact, V.ex0, exL, V.cl, clL, V.sc, scL, scO, scH, V.ct, ct1, ct2, RetP, RetK, RetH, retL, retOne, Back, Veq, subH, obs, obsIf, En.get, En.put, En.ev, enOf, gcond, wantB, constV, exGet, subE, Sub, RV, RVL, NR, RO, subER, subHR, newLt, oldNe, oldOk, oldGe, notIn, ivN, lookN, SubR, Nm.root, Nat.reduceMul, Nat.reduceLeDiff, Nat.reduceEqDiff, Nat.reduceLT, Nat.reduceAdd, Nat.reduceSub, ↓reduceIte, implies_true, reduceCtorEq, ne_eq, ↓shr_eq, IntKind.bits, Int.reduceToNat, Int.reducePow, dite_eq_ite, Value.oneCell', Nat.reduceBEq, Nat.reduceDiv, bnS, bnN, bnT, jsB, JY, JYf, ndV]
  refine ⟨fun h1 h2 => by rw [h1]; simpa using h2, ?_⟩
  generalize hq : (decide (n.kind < 1) || decide (7 < n.kind) || decide (n.kids < 0) || decide (0 < n.kids) && decide (n.kind < 6)) = q
  have hq' : q = true ↔ (n.kind < 1 ∨ 7 < n.kind ∨ n.kids < 0 ∨ (0 < n.kids ∧ n.kind ≠ 6 ∧ n.kind ≠ 7)) := by
    rw [← hq]
    simp only [Bool.or_eq_true, Bool.and_eq_true, decide_eq_true_eq]
    omega
  clear hq
  refine ⟨fun hb => ?_, fun hb => ?_⟩
  · rw [if_pos (hq'.1 hb)] at hp
    rw [hp]
    refine RenC.skip ?_
    simp only [eqC, vlook, vmark, seqN, sameBox, boxJs, vquietR, vopsR, RetC, retW, cellR, undV, vgA, vbinN, vnn, isNilC, isIf, vconvH, vconvO, cvOk, frz1, frzE, jsOk, jsCo, rowsH, vgcH, vgH, vopsT, stepE, Kseq_app, vg_skip, vg_label, vg_seq, vg_region, vg_cond, vg_block, vg_exit, vg_ret, vg_loop, vcallF, vcallH, uls, HdelK, memN, noBox, ninL, keysH, jsAt, AdSub, adopt, noEl, isNil, effL, effO, vopsD, vquiet, vfstD, ldq, ldOk, vops, vfst, vone, vact, ug, addL, vbox, valloc, vstore, vbuild, arrF, vbuildSlice, vappend, vmake, zeroS, zeroE, vstrB, apC, nrm, nr1, nrL, keyL, neqs, diffs, V.app, V.len, vsrc, vdst, mkSl, mkBy, inOrd, placeAll, V.one, V.sto, V.csize, V.parts, V.cellsL, setMany, V.setB, V.setE, V.setO, V.noOwn, V.isOwn, vq, vcall, fzA, fz, fz1, fzL, fzN, rts, rt1, V.er, er1, er2, mixA, mixK, uargs, u1, R.add, vop, vbin, vint2, vstr2, vbool2, vnum, vun, vpick, vpick1, vbool, vconv, vnil, vfieldAddr, vindexAddr, vstEq, vindex, vload, vfield, aggD, vslice, bnd, uopt, vlen, vmin, vextract, Hpk, Hroot, refV, ownR, V.i, V.elems, V.cell, V.cut, V.exact, V.ex0, exL, V.cl, clL, V.sc, scL, scO, scH, V.ct, ct1, ct2, RetP, RetK, RetH, retL, retOne, Back, Veq, subH, obs, obsIf, En.get, En.put, En.ev, enOf, gcond, wantB, constV, exGet, subE, Sub, RV, RVL, NR, RO, subER, subHR, newLt, oldNe, oldOk, oldGe, notIn, ivN, lookN, SubR, Nm.root, Nat.reduceMul, Nat.reduceLeDiff, Nat.reduceEqDiff, Nat.reduceLT, Nat.reduceAdd, Nat.reduceSub, ↓reduceIte, implies_true, reduceCtorEq, ne_eq, ↓shr_eq, IntKind.bits, Int.reduceToNat, Int.reducePow, dite_eq_ite, Value.oneCell', Nat.reduceBEq, Nat.reduceDiv, bnS, bnN, bnT, jsB]
  · rw [if_neg (fun h => by rw [hq'.2 h] at hb; cases hb)] at hp
    refine ⟨hl, hl, by omega, fun hk => ?_, fun hk => ?_⟩
    · rw [if_pos (by simpa using hk)] at hp
      rw [hp]
      refine RenC.skip ?_
      simp only [eqC, vlook, vmark, seqN, sameBox, boxJs, vquietR, vopsR, RetC, retW, cellR, undV, vgA, vbinN, vnn, isNilC, isIf, vconvH, vconvO, cvOk, frz1, frzE, jsOk, jsCo, rowsH, vgcH, vgH, vopsT, stepE, Kseq_app, vg_skip, vg_label, vg_seq, vg_region, vg_cond, vg_block, vg_exit, vg_ret, vg_loop, vcallF, vcallH, uls, HdelK, memN, noBox, ninL, keysH, jsAt, AdSub, adopt, noEl, isNil, effL, effO, vopsD, vquiet, vfstD, ldq, ldOk, vops, vfst, vone, vact, ug, addL, vbox, valloc, vstore, vbuild, arrF, vbuildSlice, vappend, vmake, zeroS, zeroE, vstrB, apC, nrm, nr1, nrL, keyL, neqs, diffs, V.app, V.len, vsrc, vdst, mkSl, mkBy, inOrd, placeAll, V.one, V.sto, V.csize, V.parts, V.cellsL, setMany, V.setB, V.setE, V.setO, V.noOwn, V.isOwn, vq, vcall, fzA, fz, fz1, fzL, fzN, rts, rt1, V.er, er1, er2, mixA, mixK, uargs, u1, R.add, vop, vbin, vint2, vstr2, vbool2, vnum, vun, vpick, vpick1, vbool, vconv, vnil, vfieldAddr, vindexAddr, vstEq, vindex, vload, vfield, aggD, vslice, bnd, uopt, vlen, vmin, vextract, Hpk, Hroot, refV, ownR, V.i, V.elems, V.cell, V.cut, V.exact, V.ex0, exL, V.cl, clL, V.sc, scL, scO, scH, V.ct, ct1, ct2, RetP, RetK, RetH, retL, retOne, Back, Veq, subH, obs, obsIf, En.get, En.put, En.ev, enOf, gcond, wantB, constV, exGet, subE, Sub, RV, RVL, NR, RO, subER, subHR, newLt, oldNe, oldOk, oldGe, notIn, ivN, lookN, SubR, Nm.root, Nat.reduceMul, Nat.reduceLeDiff, Nat.reduceEqDiff, Nat.reduceLT, Nat.reduceAdd, Nat.reduceSub, ↓reduceIte, implies_true, reduceCtorEq, ne_eq, ↓shr_eq, IntKind.bits, Int.reduceToNat, Int.reducePow, dite_eq_ite, Value.oneCell', Nat.reduceBEq, Nat.reduceDiv, bnS, bnN, bnT, jsB]
      rw [BEq.comm (a := (wholeF n.text).2), BEq.comm (a := (wholeF n.text).1)]
    · rw [if_neg (by simpa using hk)] at hp
      refine ⟨fun hw => ?_, fun hw => ?_⟩
      · rw [if_pos (by simpa [bne] using hw)] at hp
        rw [hp]
        refine RenC.skip ?_
        simp only [eqC, vlook, vmark, seqN, sameBox, boxJs, vquietR, vopsR, RetC, retW, cellR, undV, vgA, vbinN, vnn, isNilC, isIf, vconvH, vconvO, cvOk, frz1, frzE, jsOk, jsCo, rowsH, vgcH, vgH, vopsT, stepE, Kseq_app, vg_skip, vg_label, vg_seq, vg_region, vg_cond, vg_block, vg_exit, vg_ret, vg_loop, vcallF, vcallH, uls, HdelK, memN, noBox, ninL, keysH, jsAt, AdSub, adopt, noEl, isNil, effL, effO, vopsD, vquiet, vfstD, ldq, ldOk, vops, vfst, vone, vact, ug, addL, vbox, valloc, vstore, vbuild, arrF, vbuildSlice, vappend, vmake, zeroS, zeroE, vstrB, apC, nrm, nr1, nrL, keyL, neqs, diffs, V.app, V.len, vsrc, vdst, mkSl, mkBy, inOrd, placeAll, V.one, V.sto, V.csize, V.parts, V.cellsL, setMany, V.setB, V.setE, V.setO, V.noOwn, V.isOwn, vq, vcall, fzA, fz, fz1, fzL, fzN, rts, rt1, V.er, er1, er2, mixA, mixK, uargs, u1, R.add, vop, vbin, vint2, vstr2, vbool2, vnum, vun, vpick, vpick1, vbool, vconv, vnil, vfieldAddr, vindexAddr, vstEq, vindex, vload, vfield, aggD, vslice, bnd, uopt, vlen, vmin, vextract, Hpk, Hroot, refV, ownR, V.i, V.elems, V.cell, V.cut, V.exact, V.ex0, exL, V.cl, clL, V.sc, scL, scO, scH, V.ct, ct1, ct2, RetP, RetK, RetH, retL, retOne, Back, Veq, subH, obs, obsIf, En.get, En.put, En.ev, enOf, gcond, wantB, constV, exGet, subE, Sub, RV, RVL, NR, RO, subER, subHR, newLt, oldNe, oldOk, oldGe, notIn, ivN, lookN, SubR, Nm.root, Nat.reduceMul, Nat.reduceLeDiff, Nat.reduceEqDiff, Nat.reduceLT, Nat.reduceAdd, Nat.reduceSub, ↓reduceIte, implies_true, reduceCtorEq, ne_eq, ↓shr_eq, IntKind.bits, Int.reduceToNat, Int.reducePow, dite_eq_ite, Value.oneCell', Nat.reduceBEq, Nat.reduceDiv, bnS, bnN, bnT, jsB]
      · rw [if_neg (by simpa [bne] using hw)] at hp
        refine ⟨fun hs => ?_, fun hs => ?_⟩
        · rw [if_pos (by simpa using hs)] at hp
          rw [hp]
          refine RenC.skip ?_
          simp only [eqC, vlook, vmark, seqN, sameBox, boxJs, vquietR, vopsR, RetC, retW, cellR, undV, vgA, vbinN, vnn, isNilC, isIf, vconvH, vconvO, cvOk, frz1, frzE, jsOk, jsCo, rowsH, vgcH, vgH, vopsT, stepE, Kseq_app, vg_skip, vg_label, vg_seq, vg_region, vg_cond, vg_block, vg_exit, vg_ret, vg_loop, vcallF, vcallH, uls, HdelK, memN, noBox, ninL, keysH, jsAt, AdSub, adopt, noEl, isNil, effL, effO, vopsD, vquiet, vfstD, ldq, ldOk, vops, vfst, vone, vact, ug, addL, vbox, valloc, vstore, vbuild, arrF, vbuildSlice, vappend, vmake, zeroS, zeroE, vstrB, apC, nrm, nr1, nrL, keyL, neqs, diffs, V.app, V.len, vsrc, vdst, mkSl, mkBy, inOrd, placeAll, V.one, V.sto, V.csize, V.parts, V.cellsL, setMany, V.setB, V.setE, V.setO, V.noOwn, V.isOwn, vq, vcall, fzA, fz, fz1, fzL, fzN, rts, rt1, V.er, er1, er2, mixA, mixK, uargs, u1, R.add, vop, vbin, vint2, vstr2, vbool2, vnum, vun, vpick, vpick1, vbool, vconv, vnil, vfieldAddr, vindexAddr, vstEq, vindex, vload, vfield, aggD, vslice, bnd, uopt, vlen, vmin, vextract, Hpk, Hroot, refV, ownR, V.i, V.elems, V.cell, V.cut, V.exact, V.ex0, exL, V.cl, clL, V.sc, scL, scO, scH, V.ct, ct1, ct2, RetP, RetK, RetH, retL, retOne, Back, Veq, subH, obs, obsIf, En.get, En.put, En.ev, enOf, gcond, wantB, constV, exGet, subE, Sub, RV, RVL, NR, RO, subER, subHR, newLt, oldNe, oldOk, oldGe, notIn, ivN, lookN, SubR, Nm.root, Nat.reduceMul, Nat.reduceLeDiff, Nat.reduceEqDiff, Nat.reduceLT, Nat.reduceAdd, Nat.reduceSub, ↓reduceIte, implies_true, reduceCtorEq, ne_eq, ↓shr_eq, IntKind.bits, Int.reduceToNat, Int.reducePow, dite_eq_ite, Value.oneCell', Nat.reduceBEq, Nat.reduceDiv, bnS, bnN, bnT, jsB]
        · rw [if_neg (by simpa using hs)] at hp
          rw [hp]
          refine RenC.skip ?_
          simp only [eqC, vlook, vmark, seqN, sameBox, boxJs, vquietR, vopsR, RetC, retW, cellR, undV, vgA, vbinN, vnn, isNilC, isIf, vconvH, vconvO, cvOk, frz1, frzE, jsOk, jsCo, rowsH, vgcH, vgH, vopsT, stepE, Kseq_app, vg_skip, vg_label, vg_seq, vg_region, vg_cond, vg_block, vg_exit, vg_ret, vg_loop, vcallF, vcallH, uls, HdelK, memN, noBox, ninL, keysH, jsAt, AdSub, adopt, noEl, isNil, effL, effO, vopsD, vquiet, vfstD, ldq, ldOk, vops, vfst, vone, vact, ug, addL, vbox, valloc, vstore, vbuild, arrF, vbuildSlice, vappend, vmake, zeroS, zeroE, vstrB, apC, nrm, nr1, nrL, keyL, neqs, diffs, V.app, V.len, vsrc, vdst, mkSl, mkBy, inOrd, placeAll, V.one, V.sto, V.csize, V.parts, V.cellsL, setMany, V.setB, V.setE, V.setO, V.noOwn, V.isOwn, vq, vcall, fzA, fz, fz1, fzL, fzN, rts, rt1, V.er, er1, er2, mixA, mixK, uargs, u1, R.add, vop, vbin, vint2, vstr2, vbool2, vnum, vun, vpick, vpick1, vbool, vconv, vnil, vfieldAddr, vindexAddr, vstEq, vindex, vload, vfield, aggD, vslice, bnd, uopt, vlen, vmin, vextract, Hpk, Hroot, refV, ownR, V.i, V.elems, V.cell, V.cut, V.exact, V.ex0, exL, V.cl, clL, V.sc, scL, scO, scH, V.ct, ct1, ct2, RetP, RetK, RetH, retL, retOne, Back, Veq, subH, obs, obsIf, En.get, En.put, En.ev, enOf, gcond, wantB, constV, exGet, subE, Sub, RV, RVL, NR, RO, subER, subHR, newLt, oldNe, oldOk, oldGe, notIn, ivN, lookN, SubR, Nm.root, Nat.reduceMul, Nat.reduceLeDiff, Nat.reduceEqDiff, Nat.reduceLT, Nat.reduceAdd, Nat.reduceSub, ↓reduceIte, implies_true, reduceCtorEq, ne_eq, ↓shr_eq, IntKind.bits, Int.reduceToNat, Int.reducePow, dite_eq_ite, Value.oneCell', Nat.reduceBEq, Nat.reduceDiv, bnS, bnN, bnT, jsB]
end Go.Proofs.YtbjfhnbgiajnjaaDoor
