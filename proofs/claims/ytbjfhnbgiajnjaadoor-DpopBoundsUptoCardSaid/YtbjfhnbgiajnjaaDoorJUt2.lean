/- The document's utf: the walk. -/
import Derived.Test.YtbjfhnbgiajnjaaDoorJUtf
namespace Go.Proofs.YtbjfhnbgiajnjaaDoor
open Go.RowKit
set_option linter.unusedSimpArgs false
set_option maxRecDepth 100000
def JHf : FuncId → List V → Option (List Prop × Bool × V) := fun f args =>
  if f = 28 then match args with
    | [.str s, .val (.int .i64 a)] => some ([0 ≤ a, a < s.length, s.length ≤ 140737488355328], false,
        .st [.i (if (bndF (byteAt s a.toNat)).1 < 0 then 0 else match contS s a.toNat (bndF (byteAt s a.toNat)).1.toNat 1 (bndF (byteAt s a.toNat)).2.1 (bndF (byteAt s a.toNat)).2.2 with
            | some _ => 0
            | none => a + (bndF (byteAt s a.toNat)).1 + 1), .val (.slice none 0 0),
          .str (if (bndF (byteAt s a.toNat)).1 < 0 then [] else match contS s a.toNat (bndF (byteAt s a.toNat)).1.toNat 1 (bndF (byteAt s a.toNat)).2.1 (bndF (byteAt s a.toNat)).2.2 with
            | some _ => []
            | none => (s.drop a.toNat).take ((bndF (byteAt s a.toNat)).1.toNat + 1)),
          .i (if (bndF (byteAt s a.toNat)).1 < 0 then 32 else match contS s a.toNat (bndF (byteAt s a.toNat)).1.toNat 1 (bndF (byteAt s a.toNat)).2.1 (bndF (byteAt s a.toNat)).2.2 with
            | some (e, _) => e
            | none => 0),
          .i (if (bndF (byteAt s a.toNat)).1 < 0 then a else match contS s a.toNat (bndF (byteAt s a.toNat)).1.toNat 1 (bndF (byteAt s a.toNat)).2.1 (bndF (byteAt s a.toNat)).2.2 with
            | some (_, b) => b
            | none => 0)])
    | _ => none
  else none
def JHs (J : Inv) : Sig := ⟨J, jdf, JHf, noH, 0⟩
theorem JHs_ok (J : Inv) : SigOk Tryd.prog (JHs J) := by
  refine .plain fun f args l fr r h hl => ?_
  change JHf f args = some (l, fr, r) at h
  unfold JHf at h
  split at h
  · rename_i hf; subst hf
    split at h
    · rename_i s a
      obtain ⟨rfl, rfl, rfl⟩ := jsome_tri h
      have h1 : 0 ≤ a := hl _ (by simp)
      have h2 : a < s.length := hl _ (by simp)
      have h3 : s.length ≤ 140737488355328 := hl _ (by simp)
      obtain ⟨n, rfl⟩ : ∃ n : Nat, a = n := ⟨a.toNat, by omega⟩
      have := sequence_fn J s n (by omega) h3
      rw [Int.toNat_natCast]
      unfold seqV gotV at this
      by_cases hb : (bndF (byteAt s n)).1 < 0
      · simp only [hb, if_true] at this ⊢
        exact this
      · simp only [hb, if_false] at this ⊢
        cases hc : contS s n (bndF (byteAt s n)).1.toNat 1 (bndF (byteAt s n)).2.1 (bndF (byteAt s n)).2.2 with
        | none => rw [hc] at this; exact this
        | some p => obtain ⟨e, b⟩ := p; rw [hc] at this; exact this
    · exact absurd h (by simp)
  · exact absurd h (by simp)
theorem contS_ne {s : List UInt8} {a : Nat} : ∀ {n i : Nat} {lo hi e b : Int}, contS s a n i lo hi = some (e, b) → e ≠ 0
  | 0, _, _, _, _, _, h => by cases h
  | n + 1, i, lo, hi, e, b, h => by
    rw [contS] at h
    split at h
    · obtain ⟨rfl, _⟩ := Prod.mk.inj (Option.some.inj h); decide
    · split at h
      · obtain ⟨rfl, _⟩ := Prod.mk.inj (Option.some.inj h); decide
      · exact contS_ne h
theorem contS_le {s : List UInt8} {a : Nat} : ∀ {n i : Nat} {lo hi : Int}, a + i ≤ s.length → contS s a n i lo hi = none → a + i + n ≤ s.length
  | 0, _, _, _, h, _ => h
  | n + 1, i, lo, hi, h0, h => by
    rw [contS] at h
    split at h
    · cases h
    · split at h
      · cases h
      · have := contS_le (n := n) (i := i + 1) (by omega) h
        omega
theorem utf_fn (J : Inv) (s : List UInt8) (hl : s.length ≤ 140737488355328) : Fn Tryd.prog J 22 false [.str s] (.bb (Lib.validD s)) := by
  refine fn_intro Tryd.func22 rfl (by kernel_rfl) (Nat.le_of_ble_eq_true (by kernel_rfl)) (by kernel_rfl) (by kernel_rfl) rfl (JHs_ok J) ?_
  unfold Tryd.f22
  simp only [eqC, vlook, vmark, seqN, sameBox, boxJs, vquietR, vopsR, RetC, retW, cellR, undV, vgA, vbinN, vnn, isNilC, isIf, vconvH, vconvO, cvOk, frz1, frzE, jsOk, jsCo, rowsH, vgcH, vgH, vopsT, stepE, Kseq_app, vg_skip, vg_label, vg_seq, vg_region, vg_cond, vg_block, vg_exit, vg_ret, vg_loop, vcallF, vcallH, uls, HdelK, memN, noBox, ninL, keysH, jsAt, AdSub, adopt, noEl, isNil, effL, effO, vopsD, vquiet, vfstD, ldq, ldOk, vops, vfst, vone, vact, ug, addL, vbox, valloc, vstore, vbuild, arrF, vbuildSlice, vappend, vmake, zeroS, zeroE, vstrB, apC, nrm, nr1, nrL, keyL, neqs, diffs, V.app, V.len, vsrc, vdst, mkSl, mkBy, inOrd, placeAll, V.one, V.sto, V.csize, V.parts, V.cellsL, setMany, V.setB, V.setE, V.setO, V.noOwn, V.isOwn, vq, vcall, fzA, fz, fz1, fzL, fzN, rts, rt1, V.er, er1, er2, mixA, mixK, uargs, u1, R.add, vop, vbin, vint2, vstr2, vbool2, vnum, vun, vpick, vpick1, vbool, vconv, vnil, vfieldAddr, vindexAddr, vstEq, vindex, vload, vfield, aggD, vslice, bnd, uopt, vlen, vmin, vextract, Hpk, Hroot, refV, ownR, V.i, V.elems, V.cell, V.cut, V.exact, V.ex0, exL, V.cl, clL, V.sc, scL, scO, scH, V.ct, ct1, ct2, RetP, RetK, RetH, retL, retOne, Back, Veq, subH, obs, obsIf, En.get, En.put, En.ev, enOf, gcond, wantB, constV, exGet, subE, Sub, RV, RVL, NR, RO, subER, subHR, newLt, oldNe, oldOk, oldGe, notIn, ivN, lookN, SubR, Nm.root, Nat.reduceMul, Nat.reduceLeDiff, Nat.reduceEqDiff, Nat.reduceLT, Nat.reduceAdd, Nat.reduceSub, ↓reduceIte, implies_true, reduceCtorEq, ne_eq, ↓shr_eq, IntKind.bits, Int.reduceToNat, Int.reducePow, dite_eq_ite, Value.oneCell', Nat.reduceBEq, Nat.reduceDiv, bnS, bnN, bnT, jsB, JHs, JHf]
  refine LoopC.intro (α := Nat) (fun i => i ≤ s.length ∧ Lib.validD s = Lib.validD (s.drop i)) (fun i => ⟨[(3, .i i), (0, .str s)], [], 0⟩) (fun i => s.length - i) 0 ⟨Nat.zero_le _, rfl⟩ ?_ ?_
  · simp only [eqC, vlook, vmark, seqN, sameBox, boxJs, vquietR, vopsR, RetC, retW, cellR, undV, vgA, vbinN, vnn, isNilC, isIf, vconvH, vconvO, cvOk, frz1, frzE, jsOk, jsCo, rowsH, vgcH, vgH, vopsT, stepE, Kseq_app, vg_skip, vg_label, vg_seq, vg_region, vg_cond, vg_block, vg_exit, vg_ret, vg_loop, vcallF, vcallH, uls, HdelK, memN, noBox, ninL, keysH, jsAt, AdSub, adopt, noEl, isNil, effL, effO, vopsD, vquiet, vfstD, ldq, ldOk, vops, vfst, vone, vact, ug, addL, vbox, valloc, vstore, vbuild, arrF, vbuildSlice, vappend, vmake, zeroS, zeroE, vstrB, apC, nrm, nr1, nrL, keyL, neqs, diffs, V.app, V.len, vsrc, vdst, mkSl, mkBy, inOrd, placeAll, V.one, V.sto, V.csize, V.parts, V.cellsL, setMany, V.setB, V.setE, V.setO, V.noOwn, V.isOwn, vq, vcall, fzA, fz, fz1, fzL, fzN, rts, rt1, V.er, er1, er2, mixA, mixK, uargs, u1, R.add, vop, vbin, vint2, vstr2, vbool2, vnum, vun, vpick, vpick1, vbool, vconv, vnil, vfieldAddr, vindexAddr, vstEq, vindex, vload, vfield, aggD, vslice, bnd, uopt, vlen, vmin, vextract, Hpk, Hroot, refV, ownR, V.i, V.elems, V.cell, V.cut, V.exact, V.ex0, exL, V.cl, clL, V.sc, scL, scO, scH, V.ct, ct1, ct2, RetP, RetK, RetH, retL, retOne, Back, Veq, subH, obs, obsIf, En.get, En.put, En.ev, enOf, gcond, wantB, constV, exGet, subE, Sub, RV, RVL, NR, RO, subER, subHR, newLt, oldNe, oldOk, oldGe, notIn, ivN, lookN, SubR, Nm.root, Nat.reduceMul, Nat.reduceLeDiff, Nat.reduceEqDiff, Nat.reduceLT, Nat.reduceAdd, Nat.reduceSub, ↓reduceIte, implies_true, reduceCtorEq, ne_eq, ↓shr_eq, IntKind.bits, Int.reduceToNat, Int.reducePow, dite_eq_ite, Value.oneCell', Nat.reduceBEq, Nat.reduceDiv, bnS, bnN, bnT, jsB]
    rfl
  · rintro i ⟨h1, h2⟩
    simp only [eqC, vlook, vmark, seqN, sameBox, boxJs, vquietR, vopsR, RetC, retW, cellR, undV, vgA, vbinN, vnn, isNilC, isIf, vconvH, vconvO, cvOk, frz1, frzE, jsOk, jsCo, rowsH, vgcH, vgH, vopsT, stepE, Kseq_app, vg_skip, vg_label, vg_seq, vg_region, vg_cond, vg_block, vg_exit, vg_ret, vg_loop, vcallF, vcallH, uls, HdelK, memN, noBox, ninL, keysH, jsAt, AdSub, adopt, noEl, isNil, effL, effO, vopsD, vquiet, vfstD, ldq, ldOk, vops, vfst, vone, vact, ug, addL, vbox, valloc, vstore, vbuild, arrF, vbuildSlice, vappend, vmake, zeroS, zeroE, vstrB, apC, nrm, nr1, nrL, keyL, neqs, diffs, V.app, V.len, vsrc, vdst, mkSl, mkBy, inOrd, placeAll, V.one, V.sto, V.csize, V.parts, V.cellsL, setMany, V.setB, V.setE, V.setO, V.noOwn, V.isOwn, vq, vcall, fzA, fz, fz1, fzL, fzN, rts, rt1, V.er, er1, er2, mixA, mixK, uargs, u1, R.add, vop, vbin, vint2, vstr2, vbool2, vnum, vun, vpick, vpick1, vbool, vconv, vnil, vfieldAddr, vindexAddr, vstEq, vindex, vload, vfield, aggD, vslice, bnd, uopt, vlen, vmin, vextract, Hpk, Hroot, refV, ownR, V.i, V.elems, V.cell, V.cut, V.exact, V.ex0, exL, V.cl, clL, V.sc, scL, scO, scH, V.ct, ct1, ct2, RetP, RetK, RetH, retL, retOne, Back, Veq, subH, obs, obsIf, En.get, En.put, En.ev, enOf, gcond, wantB, constV, exGet, subE, Sub, RV, RVL, NR, RO, subER, subHR, newLt, oldNe, oldOk, oldGe, notIn, ivN, lookN, SubR, Nm.root, Nat.reduceMul, Nat.reduceLeDiff, Nat.reduceEqDiff, Nat.reduceLT, Nat.reduceAdd, Nat.reduceSub, ↓reduceIte, implies_true, reduceCtorEq, ne_eq, ↓shr_eq, IntKind.bits, Int.reduceToNat, Int.reducePow, dite_eq_ite, Value.oneCell', Nat.reduceBEq, Nat.reduceDiv, bnS, bnN, bnT, jsB, JHs, JHf]
    refine ⟨fun q1 => ⟨by omega, by simpa using q1, fun q2 => ⟨?_, Again.intro (i + 1) ⟨?_, ?_⟩ ?_ ?_⟩, fun q2 => ⟨by omega, by simpa using q1, hl, ?_⟩⟩, fun q1 => ?_⟩
    · simp only [decide_eq_true_eq] at q1; constructor <;> omega
    · simp only [decide_eq_true_eq] at q1; omega
    · simp only [decide_eq_true_eq] at q1 q2
      have hk : i < s.length := by omega
      rw [h2, List.drop_eq_getElem_cons hk, Lib.validD_cons]
      unfold byteAt at q2
      rw [List.getD_eq_getElem?_getD, List.getElem?_eq_getElem hk, Option.getD_some] at q2
      omega
    · simp only [decide_eq_true_eq] at q1; omega
    · simp only [eqC, vlook, vmark, seqN, sameBox, boxJs, vquietR, vopsR, RetC, retW, cellR, undV, vgA, vbinN, vnn, isNilC, isIf, vconvH, vconvO, cvOk, frz1, frzE, jsOk, jsCo, rowsH, vgcH, vgH, vopsT, stepE, Kseq_app, vg_skip, vg_label, vg_seq, vg_region, vg_cond, vg_block, vg_exit, vg_ret, vg_loop, vcallF, vcallH, uls, HdelK, memN, noBox, ninL, keysH, jsAt, AdSub, adopt, noEl, isNil, effL, effO, vopsD, vquiet, vfstD, ldq, ldOk, vops, vfst, vone, vact, ug, addL, vbox, valloc, vstore, vbuild, arrF, vbuildSlice, vappend, vmake, zeroS, zeroE, vstrB, apC, nrm, nr1, nrL, keyL, neqs, diffs, V.app, V.len, vsrc, vdst, mkSl, mkBy, inOrd, placeAll, V.one, V.sto, V.csize, V.parts, V.cellsL, setMany, V.setB, V.setE, V.setO, V.noOwn, V.isOwn, vq, vcall, fzA, fz, fz1, fzL, fzN, rts, rt1, V.er, er1, er2, mixA, mixK, uargs, u1, R.add, vop, vbin, vint2, vstr2, vbool2, vnum, vun, vpick, vpick1, vbool, vconv, vnil, vfieldAddr, vindexAddr, vstEq, vindex, vload, vfield, aggD, vslice, bnd, uopt, vlen, vmin, vextract, Hpk, Hroot, refV, ownR, V.i, V.elems, V.cell, V.cut, V.exact, V.ex0, exL, V.cl, clL, V.sc, scL, scO, scH, V.ct, ct1, ct2, RetP, RetK, RetH, retL, retOne, Back, Veq, subH, obs, obsIf, En.get, En.put, En.ev, enOf, gcond, wantB, constV, exGet, subE, Sub, RV, RVL, NR, RO, subER, subHR, newLt, oldNe, oldOk, oldGe, notIn, ivN, lookN, SubR, Nm.root, Nat.reduceMul, Nat.reduceLeDiff, Nat.reduceEqDiff, Nat.reduceLT, Nat.reduceAdd, Nat.reduceSub, ↓reduceIte, implies_true, reduceCtorEq, ne_eq, ↓shr_eq, IntKind.bits, Int.reduceToNat, Int.reducePow, dite_eq_ite, Value.oneCell', Nat.reduceBEq, Nat.reduceDiv, bnS, bnN, bnT, jsB]
      omega
    · simp only [decide_eq_true_eq, decide_eq_false_iff_not] at q1 q2
      have hs := seq_valid s i (by omega) (by omega)
      rw [← h2] at hs
      have hbn := bndF_n (byteAt s i)
      generalize (bndF (byteAt s i)).1 = n at *
      generalize (bndF (byteAt s i)).2.1 = lo at *
      generalize (bndF (byteAt s i)).2.2 = hi at *
      by_cases hb : n < 0
      · simp only [hb, if_true] at hs ⊢
        refine ⟨fun _ => hs.symm, fun h => absurd h (by decide)⟩
      · simp only [hb, if_false] at hs ⊢
        cases hc : contS s i n.toNat 1 lo hi with
        | some p =>
          obtain ⟨e, b⟩ := p
          rw [hc] at hs
          refine ⟨fun _ => hs.symm, fun h => ?_⟩
          simp only [Bool.not_eq_false', beq_iff_eq] at h
          exact absurd h (contS_ne hc)
        | none =>
          rw [hc] at hs
          have hl2 := contS_le (by omega) hc
          refine ⟨fun h => by simp at h, fun h => Again.introR (i + (n.toNat + 1)) [] ⟨by omega, hs⟩ (by omega) ?_⟩
          simp only [eqC, vlook, vmark, seqN, sameBox, boxJs, vquietR, vopsR, RetC, retW, cellR, undV, vgA, vbinN, vnn, isNilC, isIf, vconvH, vconvO, cvOk, frz1, frzE, jsOk, jsCo, rowsH, vgcH, vgH, vopsT, stepE, Kseq_app, vg_skip, vg_label, vg_seq, vg_region, vg_cond, vg_block, vg_exit, vg_ret, vg_loop, vcallF, vcallH, uls, HdelK, memN, noBox, ninL, keysH, jsAt, AdSub, adopt, noEl, isNil, effL, effO, vopsD, vquiet, vfstD, ldq, ldOk, vops, vfst, vone, vact, ug, addL, vbox, valloc, vstore, vbuild, arrF, vbuildSlice, vappend, vmake, zeroS, zeroE, vstrB, apC, nrm, nr1, nrL, keyL, neqs, diffs, V.app, V.len, vsrc, vdst, mkSl, mkBy, inOrd, placeAll, V.one, V.sto, V.csize, V.parts, V.cellsL, setMany, V.setB, V.setE, V.setO, V.noOwn, V.isOwn, vq, vcall, fzA, fz, fz1, fzL, fzN, rts, rt1, V.er, er1, er2, mixA, mixK, uargs, u1, R.add, vop, vbin, vint2, vstr2, vbool2, vnum, vun, vpick, vpick1, vbool, vconv, vnil, vfieldAddr, vindexAddr, vstEq, vindex, vload, vfield, aggD, vslice, bnd, uopt, vlen, vmin, vextract, Hpk, Hroot, refV, ownR, V.i, V.elems, V.cell, V.cut, V.exact, V.ex0, exL, V.cl, clL, V.sc, scL, scO, scH, V.ct, ct1, ct2, RetP, RetK, RetH, retL, retOne, Back, Veq, subH, obs, obsIf, En.get, En.put, En.ev, enOf, gcond, wantB, constV, exGet, subE, Sub, RV, RVL, NR, RO, subER, subHR, newLt, oldNe, oldOk, oldGe, notIn, ivN, lookN, SubR, Nm.root, Nat.reduceMul, Nat.reduceLeDiff, Nat.reduceEqDiff, Nat.reduceLT, Nat.reduceAdd, Nat.reduceSub, ↓reduceIte, implies_true, reduceCtorEq, ne_eq, ↓shr_eq, IntKind.bits, Int.reduceToNat, Int.reducePow, dite_eq_ite, Value.oneCell', Nat.reduceBEq, Nat.reduceDiv, bnS, bnN, bnT, jsB]
          omega
    · simp only [decide_eq_false_iff_not] at q1
      rw [h2, List.drop_eq_nil_of_le (by omega)]
      rfl
end Go.Proofs.YtbjfhnbgiajnjaaDoor
