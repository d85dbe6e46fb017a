/- json.plain: the walk; what is taken for granted of the world. -/
import Derived.Test.YtbjfhnbgiajnjaaDoorJWhole
import Derived.Lib.LaidU8T
import Derived.Maps.Own
import Derived.Maps.Views
namespace Go.Proofs.YtbjfhnbgiajnjaaDoor
open Go.RowKit
set_option linter.unusedSimpArgs false
set_option maxRecDepth 100000
/-- The library's tables of UTF-8. -/
def JU : Inv where
  I := fun w F => Lib.Utf8Tabs 0 1 w ∧ 0 < w.heap.size ∧ 1 < w.heap.size ∧ ¬ F 0 ∧ ¬ F 1
  out := fun {w w' F F'} h hs hb hF => by
    obtain ⟨⟨h1, h2⟩, h3, h4, h5, h6⟩ := h
    have cell : ∀ b o, b < w.heap.size → ¬ F b → w'.cell? ⟨b, o, none⟩ = w.cell? ⟨b, o, none⟩ := fun b o h1 h2 => World.cell?_of_block (a := ⟨b, o, none⟩) (hb b h1 h2)
    exact ⟨⟨fun c hc => (cell _ _ h3 h5).trans (h1 c hc), fun i hi => ⟨(cell _ _ h4 h6).trans (h2 i hi).1, (cell _ _ h4 h6).trans (h2 i hi).2⟩⟩, by omega, by omega, fun hf => (hF _ hf).elim h5 fun h => by omega, fun hf => (hF _ hf).elim h6 fun h => by omega⟩
  gl := ⟨fun _ => none, none, fun _ _ _ => none⟩
  lkOk := fun _ _ _ _ _ h => by cases h
  glOk := fun _ _ h => by cases h
theorem valid8_fn (J : Inv) (hJ : ∀ w F, J.I w F → JU.I w F) (s : List UInt8) (hl : s.length ≤ 1073741824) : Fn Tryd.prog J 14 false [.str s] (.bb (Lib.validD s)) := by
  refine ⟨⟨_, Tryd.func14, by kernel_rfl, by kernel_rfl⟩, fun w F vs hI hF hlen hvs => ?_⟩
  obtain ⟨x, rfl⟩ : ∃ x, vs = [x] := List.length_eq_one_iff.1 hlen
  obtain rfl := rep_str (hvs 0 _ x rfl rfl)
  refine (Tryd.utf8_ValidString ⟨s.toArray⟩ w (by simp [ByteArray.size]; omega) (hJ w F hI).1).mono fun e w' he => ?_
  obtain ⟨rfl, hb⟩ := he
  exact ⟨_, rfl, hb, .bb _⟩
def plainF (n : Nd) : Bool :=
  if n.kind < 1 ∨ 7 < n.kind ∨ n.kids < 0 ∨ (0 < n.kids ∧ n.kind ≠ 6 ∧ n.kind ≠ 7) then false
  else if n.kind = 4 then (readF n.text).2 && (n.whole == (wholeF n.text).2) && (n.int == (wholeF n.text).1)
  else if n.whole = true ∨ n.int ≠ 0 then false
  else if n.kind = 5 then Lib.validD n.text
  else n.text == []
theorem plainF_kids (n : Nd) (h : plainF n = true) : 0 ≤ n.kids ∧ (isC n = false → n.kids = 0) := by
  unfold plainF at h
  split at h
  · cases h
  · rename_i hc
    refine ⟨by omega, fun hi => ?_⟩
    simp only [isC, Bool.or_eq_false_iff, beq_eq_false_iff_ne] at hi
    omega
def JPf : FuncId → List V → Option (List Prop × Bool × V) := fun f args =>
  if f = 18 then match args with
    | [.str s] => some ([s.length ≤ 1073741824], false, .tu [.i (wholeF s).1, .bb (wholeF s).2])
    | _ => none
  else if f = 19 then match args with
    | [.str s] => some ([s.length ≤ 1073741824], false, .bb (readF s).2)
    | _ => none
  else if f = 14 then match args with
    | [.str s] => some ([s.length ≤ 1073741824], false, .bb (Lib.validD s))
    | _ => none
  else none
theorem JPf_ok (J : Inv) (hJ : ∀ w F, J.I w F → JU.I w F) {f : FuncId} {args : List V} {l : List Prop} {fr : Bool} {r : V} (h : JPf f args = some (l, fr, r)) (hl : AllP l) : Fn Tryd.prog J f fr args r := by
  unfold JPf at h
  split at h
  · rename_i hf; subst hf
    split at h
    · obtain ⟨rfl, rfl, rfl⟩ := jsome_tri h; exact whole_fn J _ (hl _ (by simp))
    · exact absurd h (by simp)
  · split at h
    · rename_i hf; subst hf
      split at h
      · obtain ⟨rfl, rfl, rfl⟩ := jsome_tri h; exact valid_fn J _ (hl _ (by simp))
      · exact absurd h (by simp)
    · split at h
      · rename_i hf; subst hf
        split at h
        · obtain ⟨rfl, rfl, rfl⟩ := jsome_tri h; exact valid8_fn J hJ _ (hl _ (by simp))
        · exact absurd h (by simp)
      · exact absurd h (by simp)
def JP (J : Inv) : Sig := ⟨J, jdf, JPf, noH, 0⟩
theorem JP_ok (J : Inv) (hJ : ∀ w F, J.I w F → JU.I w F) : SigOk Tryd.prog (JP J) := .plain fun _ _ _ _ _ h hl => JPf_ok J hJ h hl
theorem plain_fn (J : Inv) (hJ : ∀ w F, J.I w F → JU.I w F) (n : Nd) (hl : n.text.length ≤ 1073741824) : Fn Tryd.prog J 13 false [ndV n] (.bb (plainF n)) := by
  refine Fn.of_plain (nx := 1) (post := []) ?_ rfl
  have hp : plainF n = if n.kind < 1 ∨ 7 < n.kind ∨ n.kids < 0 ∨ (0 < n.kids ∧ n.kind ≠ 6 ∧ n.kind ≠ 7) then false
    else if n.kind = 4 then (readF n.text).2 && (n.whole == (wholeF n.text).2) && (n.int == (wholeF n.text).1)
    else if n.whole = true ∨ n.int ≠ 0 then false
    else if n.kind = 5 then Lib.validD n.text
    else n.text == [] := rfl
  generalize plainF n = rr at *
  refine fnH_intro Tryd.func13 rfl (by kernel_rfl) (Nat.le_of_ble_eq_true (by kernel_rfl)) (by kernel_rfl) (by kernel_rfl) (JP_ok J hJ) rfl ?_
  unfold Tryd.f13
  simp only [eqC, vlook, vmark, seqN, sameBox, boxJs, vquietR, vopsR, RetC, retW, cellR, undV, vgA, vbinN, vnn, isNilC, isIf, vconvH, vconvO, cvOk, frz1, frzE, jsOk, jsCo, rowsH, vgcH, vgH, vopsT, stepE, Kseq_app, vg_skip, vg_label, vg_seq, vg_region, vg_cond, vg_block, vg_exit, vg_ret, vg_loop, vcallF, vcallH, uls, HdelK, memN, noBox, ninL, keysH, jsAt, AdSub, adopt, noEl, isNil, effL, effO, vopsD, vquiet, vfstD, ldq, ldOk, vops, vfst, vone, vact, ug, addL, vbox, valloc, vstore, vbuild, arrF, vbuildSlice, vappend, vmake, zeroS, zeroE, vstrB, apC, nrm, nr1, nrL, keyL, neqs, diffs, V.app, V.len, vsrc, vdst, mkSl, mkBy, inOrd, placeAll, V.one, V.sto, V.csize, V.parts, V.cellsL, setMany, V.setB, V.setE, V.setO, V.noOwn, V.isOwn, vq, vcall, fzA, fz, fz1, fzL, fzN, rts, rt1, V.er, er1, er2, mixA, mixK, uargs, u1, R.add, vop, vbin, vint2, vstr2, vbool2, vnum, vun, vpick, vpick1, vbool, vconv, vnil, vfieldAddr, vindexAddr, vstEq, vindex, vload, vfield, aggD, vslice, bnd, uopt, vlen, vmin, vextract, Hpk, Hroot, refV, ownR, V.i, V.elems, V.cell, V.cut, V.exact, V.ex0, exL, V.cl, clL, V.sc, scL, scO, scH, V.ct, ct1, ct2, RetP, RetK, RetH, retL, retOne, Back, Veq, subH, obs, obsIf, En.get, En.put, En.ev, enOf, gcond, wantB, constV, exGet, subE, Sub, RV, RVL, NR, RO, subER, subHR, newLt, oldNe, oldOk, oldGe, notIn, ivN, lookN, SubR, Nm.root, Nat.reduceMul, Nat.reduceLeDiff, Nat.reduceEqDiff, Nat.reduceLT, Nat.reduceAdd, Nat.reduceSub, ↓reduceIte, implies_true, reduceCtorEq, ne_eq, ↓shr_eq, IntKind.bits, Int.reduceToNat, Int.reducePow, dite_eq_ite, Value.oneCell', Nat.reduceBEq, Nat.reduceDiv, bnS, bnN, bnT, jsB, JP, JPf, ndV]
  refine ⟨fun h1 h2 => by rw [h1]; simpa using h2, fun h1 h2 => by rw [h1, h2]; rfl, ?_⟩
  generalize hq : (decide (n.kind < 1) || decide (7 < n.kind) || decide (n.kids < 0) || decide (0 < n.kids) && !(n.kind == 6) && !(n.kind == 7)) = q
  have hq' : q = true ↔ (n.kind < 1 ∨ 7 < n.kind ∨ n.kids < 0 ∨ (0 < n.kids ∧ n.kind ≠ 6 ∧ n.kind ≠ 7)) := by
    rw [← hq]
    simp only [Bool.or_eq_true, Bool.and_eq_true, decide_eq_true_eq, Bool.not_eq_true', beq_eq_false_iff_ne, ne_eq]
    omega
  clear hq
  refine ⟨fun hb => ?_, fun hb => ?_⟩
  · rw [if_pos (hq'.1 hb)] at hp
    rw [hp]
    refine RenC.skip ?_
    simp only [eqC, vlook, vmark, seqN, sameBox, boxJs, vquietR, vopsR, RetC, retW, cellR, undV, vgA, vbinN, vnn, isNilC, isIf, vconvH, vconvO, cvOk, frz1, frzE, jsOk, jsCo, rowsH, vgcH, vgH, vopsT, stepE, Kseq_app, vg_skip, vg_label, vg_seq, vg_region, vg_cond, vg_block, vg_exit, vg_ret, vg_loop, vcallF, vcallH, uls, HdelK, memN, noBox, ninL, keysH, jsAt, AdSub, adopt, noEl, isNil, effL, effO, vopsD, vquiet, vfstD, ldq, ldOk, vops, vfst, vone, vact, ug, addL, vbox, valloc, vstore, vbuild, arrF, vbuildSlice, vappend, vmake, zeroS, zeroE, vstrB, apC, nrm, nr1, nrL, keyL, neqs, diffs, V.app, V.len, vsrc, vdst, mkSl, mkBy, inOrd, placeAll, V.one, V.sto, V.csize, V.parts, V.cellsL, setMany, V.setB, V.setE, V.setO, V.noOwn, V.isOwn, vq, vcall, fzA, fz, fz1, fzL, fzN, rts, rt1, V.er, er1, er2, mixA, mixK, uargs, u1, R.add, vop, vbin, vint2, vstr2, vbool2, vnum, vun, vpick, vpick1, vbool, vconv, vnil, vfieldAddr, vindexAddr, vstEq, vindex, vload, vfield, aggD, vslice, bnd, uopt, vlen, vmin, vextract, Hpk, Hroot, refV, ownR, V.i, V.elems, V.cell, V.cut, V.exact, V.ex0, exL, V.cl, clL, V.sc, scL, scO, scH, V.ct, ct1, ct2, RetP, RetK, RetH, retL, retOne, Back, Veq, subH, obs, obsIf, En.get, En.put, En.ev, enOf, gcond, wantB, constV, exGet, subE, Sub, RV, RVL, NR, RO, subER, subHR, newLt, oldNe, oldOk, oldGe, notIn, ivN, lookN, SubR, Nm.root, Nat.reduceMul, Nat.reduceLeDiff, Nat.reduceEqDiff, Nat.reduceLT, Nat.reduceAdd, Nat.reduceSub, ↓reduceIte, implies_true, reduceCtorEq, ne_eq, ↓shr_eq, IntKind.bits, Int.reduceToNat, Int.reducePow, dite_eq_ite, Value.oneCell', Nat.reduceBEq, Nat.reduceDiv, bnS, bnN, bnT, jsB]
  · rw [if_neg (fun h => by rw [hq'.2 h] at hb; cases hb)] at hp
    refine ⟨fun hk => ?_, fun hk => ?_⟩
    · rw [if_pos (by simpa using hk)] at hp
      refine ⟨hl, hl, ?_⟩
      rw [hp]
      refine RenC.skip ?_
      simp only [eqC, vlook, vmark, seqN, sameBox, boxJs, vquietR, vopsR, RetC, retW, cellR, undV, vgA, vbinN, vnn, isNilC, isIf, vconvH, vconvO, cvOk, frz1, frzE, jsOk, jsCo, rowsH, vgcH, vgH, vopsT, stepE, Kseq_app, vg_skip, vg_label, vg_seq, vg_region, vg_cond, vg_block, vg_exit, vg_ret, vg_loop, vcallF, vcallH, uls, HdelK, memN, noBox, ninL, keysH, jsAt, AdSub, adopt, noEl, isNil, effL, effO, vopsD, vquiet, vfstD, ldq, ldOk, vops, vfst, vone, vact, ug, addL, vbox, valloc, vstore, vbuild, arrF, vbuildSlice, vappend, vmake, zeroS, zeroE, vstrB, apC, nrm, nr1, nrL, keyL, neqs, diffs, V.app, V.len, vsrc, vdst, mkSl, mkBy, inOrd, placeAll, V.one, V.sto, V.csize, V.parts, V.cellsL, setMany, V.setB, V.setE, V.setO, V.noOwn, V.isOwn, vq, vcall, fzA, fz, fz1, fzL, fzN, rts, rt1, V.er, er1, er2, mixA, mixK, uargs, u1, R.add, vop, vbin, vint2, vstr2, vbool2, vnum, vun, vpick, vpick1, vbool, vconv, vnil, vfieldAddr, vindexAddr, vstEq, vindex, vload, vfield, aggD, vslice, bnd, uopt, vlen, vmin, vextract, Hpk, Hroot, refV, ownR, V.i, V.elems, V.cell, V.cut, V.exact, V.ex0, exL, V.cl, clL, V.sc, scL, scO, scH, V.ct, ct1, ct2, RetP, RetK, RetH, retL, retOne, Back, Veq, subH, obs, obsIf, En.get, En.put, En.ev, enOf, gcond, wantB, constV, exGet, subE, Sub, RV, RVL, NR, RO, subER, subHR, newLt, oldNe, oldOk, oldGe, notIn, ivN, lookN, SubR, Nm.root, Nat.reduceMul, Nat.reduceLeDiff, Nat.reduceEqDiff, Nat.reduceLT, Nat.reduceAdd, Nat.reduceSub, ↓reduceIte, implies_true, reduceCtorEq, ne_eq, ↓shr_eq, IntKind.bits, Int.reduceToNat, Int.reducePow, dite_eq_ite, Value.oneCell', Nat.reduceBEq, Nat.reduceDiv, bnS, bnN, bnT, jsB]
    · rw [if_neg (by simpa using hk)] at hp
      refine ⟨fun hw => ?_, fun hw => ?_⟩
      · rw [if_pos (by simpa [bne] using hw)] at hp
        rw [hp]
        refine RenC.skip ?_
        simp only [eqC, vlook, vmark, seqN, sameBox, boxJs, vquietR, vopsR, RetC, retW, cellR, undV, vgA, vbinN, vnn, isNilC, isIf, vconvH, vconvO, cvOk, frz1, frzE, jsOk, jsCo, rowsH, vgcH, vgH, vopsT, stepE, Kseq_app, vg_skip, vg_label, vg_seq, vg_region, vg_cond, vg_block, vg_exit, vg_ret, vg_loop, vcallF, vcallH, uls, HdelK, memN, noBox, ninL, keysH, jsAt, AdSub, adopt, noEl, isNil, effL, effO, vopsD, vquiet, vfstD, ldq, ldOk, vops, vfst, vone, vact, ug, addL, vbox, valloc, vstore, vbuild, arrF, vbuildSlice, vappend, vmake, zeroS, zeroE, vstrB, apC, nrm, nr1, nrL, keyL, neqs, diffs, V.app, V.len, vsrc, vdst, mkSl, mkBy, inOrd, placeAll, V.one, V.sto, V.csize, V.parts, V.cellsL, setMany, V.setB, V.setE, V.setO, V.noOwn, V.isOwn, vq, vcall, fzA, fz, fz1, fzL, fzN, rts, rt1, V.er, er1, er2, mixA, mixK, uargs, u1, R.add, vop, vbin, vint2, vstr2, vbool2, vnum, vun, vpick, vpick1, vbool, vconv, vnil, vfieldAddr, vindexAddr, vstEq, vindex, vload, vfield, aggD, vslice, bnd, uopt, vlen, vmin, vextract, Hpk, Hroot, refV, ownR, V.i, V.elems, V.cell, V.cut, V.exact, V.ex0, exL, V.cl, clL, V.sc, scL, scO, scH, V.ct, ct1, ct2, RetP, RetK, RetH, retL, retOne, Back, Veq, subH, obs, obsIf, En.get, En.put, En.ev, enOf, gcond, wantB, constV, exGet, subE, Sub, RV, RVL, NR, RO, subER, subHR, newLt, oldNe, oldOk, oldGe, notIn, ivN, lookN, SubR, Nm.root, Nat.reduceMul, Nat.reduceLeDiff, Nat.reduceEqDiff, Nat.reduceLT, Nat.reduceAdd, Nat.reduceSub, ↓reduceIte, implies_true, reduceCtorEq, ne_eq, ↓shr_eq, IntKind.bits, Int.reduceToNat, Int.reducePow, dite_eq_ite, Value.oneCell', Nat.reduceBEq, Nat.reduceDiv, bnS, bnN, bnT, jsB]
      · rw [if_neg (by simpa [bne] using hw)] at hp
        refine ⟨fun hs => ?_, fun hs => ?_⟩
        · rw [if_pos (by simpa using hs)] at hp
          refine ⟨hl, ?_⟩
          rw [hp]
          refine RenC.skip ?_
          simp only [eqC, vlook, vmark, seqN, sameBox, boxJs, vquietR, vopsR, RetC, retW, cellR, undV, vgA, vbinN, vnn, isNilC, isIf, vconvH, vconvO, cvOk, frz1, frzE, jsOk, jsCo, rowsH, vgcH, vgH, vopsT, stepE, Kseq_app, vg_skip, vg_label, vg_seq, vg_region, vg_cond, vg_block, vg_exit, vg_ret, vg_loop, vcallF, vcallH, uls, HdelK, memN, noBox, ninL, keysH, jsAt, AdSub, adopt, noEl, isNil, effL, effO, vopsD, vquiet, vfstD, ldq, ldOk, vops, vfst, vone, vact, ug, addL, vbox, valloc, vstore, vbuild, arrF, vbuildSlice, vappend, vmake, zeroS, zeroE, vstrB, apC, nrm, nr1, nrL, keyL, neqs, diffs, V.app, V.len, vsrc, vdst, mkSl, mkBy, inOrd, placeAll, V.one, V.sto, V.csize, V.parts, V.cellsL, setMany, V.setB, V.setE, V.setO, V.noOwn, V.isOwn, vq, vcall, fzA, fz, fz1, fzL, fzN, rts, rt1, V.er, er1, er2, mixA, mixK, uargs, u1, R.add, vop, vbin, vint2, vstr2, vbool2, vnum, vun, vpick, vpick1, vbool, vconv, vnil, vfieldAddr, vindexAddr, vstEq, vindex, vload, vfield, aggD, vslice, bnd, uopt, vlen, vmin, vextract, Hpk, Hroot, refV, ownR, V.i, V.elems, V.cell, V.cut, V.exact, V.ex0, exL, V.cl, clL, V.sc, scL, scO, scH, V.ct, ct1, ct2, RetP, RetK, RetH, retL, retOne, Back, Veq, subH, obs, obsIf, En.get, En.put, En.ev, enOf, gcond, wantB, constV, exGet, subE, Sub, RV, RVL, NR, RO, subER, subHR, newLt, oldNe, oldOk, oldGe, notIn, ivN, lookN, SubR, Nm.root, Nat.reduceMul, Nat.reduceLeDiff, Nat.reduceEqDiff, Nat.reduceLT, Nat.reduceAdd, Nat.reduceSub, ↓reduceIte, implies_true, reduceCtorEq, ne_eq, ↓shr_eq, IntKind.bits, Int.reduceToNat, Int.reducePow, dite_eq_ite, Value.oneCell', Nat.reduceBEq, Nat.reduceDiv, bnS, bnN, bnT, jsB]
        · rw [if_neg (by simpa using hs)] at hp
          rw [hp]
          refine RenC.skip ?_
          simp only [eqC, vlook, vmark, seqN, sameBox, boxJs, vquietR, vopsR, RetC, retW, cellR, undV, vgA, vbinN, vnn, isNilC, isIf, vconvH, vconvO, cvOk, frz1, frzE, jsOk, jsCo, rowsH, vgcH, vgH, vopsT, stepE, Kseq_app, vg_skip, vg_label, vg_seq, vg_region, vg_cond, vg_block, vg_exit, vg_ret, vg_loop, vcallF, vcallH, uls, HdelK, memN, noBox, ninL, keysH, jsAt, AdSub, adopt, noEl, isNil, effL, effO, vopsD, vquiet, vfstD, ldq, ldOk, vops, vfst, vone, vact, ug, addL, vbox, valloc, vstore, vbuild, arrF, vbuildSlice, vappend, vmake, zeroS, zeroE, vstrB, apC, nrm, nr1, nrL, keyL, neqs, diffs, V.app, V.len, vsrc, vdst, mkSl, mkBy, inOrd, placeAll, V.one, V.sto, V.csize, V.parts, V.cellsL, setMany, V.setB, V.setE, V.setO, V.noOwn, V.isOwn, vq, vcall, fzA, fz, fz1, fzL, fzN, rts, rt1, V.er, er1, er2, mixA, mixK, uargs, u1, R.add, vop, vbin, vint2, vstr2, vbool2, vnum, vun, vpick, vpick1, vbool, vconv, vnil, vfieldAddr, vindexAddr, vstEq, vindex, vload, vfield, aggD, vslice, bnd, uopt, vlen, vmin, vextract, Hpk, Hroot, refV, ownR, V.i, V.elems, V.cell, V.cut, V.exact, V.ex0, exL, V.cl, clL, V.sc, scL, scO, scH, V.ct, ct1, ct2, RetP, RetK, RetH, retL, retOne, Back, Veq, subH, obs, obsIf, En.get, En.put, En.ev, enOf, gcond, wantB, constV, exGet, subE, Sub, RV, RVL, NR, RO, subER, subHR, newLt, oldNe, oldOk, oldGe, notIn, ivN, lookN, SubR, Nm.root, Nat.reduceMul, Nat.reduceLeDiff, Nat.reduceEqDiff, Nat.reduceLT, Nat.reduceAdd, Nat.reduceSub, ↓reduceIte, implies_true, reduceCtorEq, ne_eq, ↓shr_eq, IntKind.bits, Int.reduceToNat, Int.reducePow, dite_eq_ite, Value.oneCell', Nat.reduceBEq, Nat.reduceDiv, bnS, bnN, bnT, jsB]
end Go.Proofs.YtbjfhnbgiajnjaaDoor
