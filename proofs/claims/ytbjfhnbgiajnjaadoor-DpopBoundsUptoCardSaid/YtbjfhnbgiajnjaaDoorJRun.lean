/- Numbers as texts: the walks of the program's own reading. -/
import Derived.Test.YtbjfhnbgiajnjaaDoorJData
import Derived.Test.YtbjfhnbgiajnjaaDoorShelf
namespace Go.Proofs.YtbjfhnbgiajnjaaDoor
open Go.RowKit
set_option linter.unusedSimpArgs false
set_option maxRecDepth 100000
theorem run_fn (J : Inv) (s : List UInt8) (hl : s.length ≤ 140737488355328) : Fn Tryd.prog J 30 false [.str s] (.i (runF s)) := by
  refine fn_intro Tryd.func30 rfl (by kernel_rfl) (Nat.le_of_ble_eq_true (by kernel_rfl)) (by kernel_rfl) (by kernel_rfl) rfl (J0_ok J) ?_
  unfold Tryd.f30
  simp only [eqC, vlook, vmark, seqN, sameBox, boxJs, vquietR, vopsR, RetC, retW, cellR, undV, vgA, vbinN, vnn, isNilC, isIf, vconvH, vconvO, cvOk, frz1, frzE, jsOk, jsCo, rowsH, vgcH, vgH, vopsT, stepE, Kseq_app, vg_skip, vg_label, vg_seq, vg_region, vg_cond, vg_block, vg_exit, vg_ret, vg_loop, vcallF, vcallH, uls, HdelK, memN, noBox, ninL, keysH, jsAt, AdSub, adopt, noEl, isNil, effL, effO, vopsD, vquiet, vfstD, ldq, ldOk, vops, vfst, vone, vact, ug, addL, vbox, valloc, vstore, vbuild, arrF, vbuildSlice, vappend, vmake, zeroS, zeroE, vstrB, apC, nrm, nr1, nrL, keyL, neqs, diffs, V.app, V.len, vsrc, vdst, mkSl, mkBy, inOrd, placeAll, V.one, V.sto, V.csize, V.parts, V.cellsL, setMany, V.setB, V.setE, V.setO, V.noOwn, V.isOwn, vq, vcall, fzA, fz, fz1, fzL, fzN, rts, rt1, V.er, er1, er2, mixA, mixK, uargs, u1, R.add, vop, vbin, vint2, vstr2, vbool2, vnum, vun, vpick, vpick1, vbool, vconv, vnil, vfieldAddr, vindexAddr, vstEq, vindex, vload, vfield, aggD, vslice, bnd, uopt, vlen, vmin, vextract, Hpk, Hroot, refV, ownR, V.i, V.elems, V.cell, V.cut, V.exact, V.ex0, exL, V.cl, clL, V.sc, scL, scO, scH, V.ct, ct1, ct2, RetP, RetK, RetH, retL, retOne, Back, Veq, subH, obs, obsIf, En.get, En.put, En.ev, enOf, gcond, wantB, constV, exGet, subE, Sub, RV, RVL, NR, RO, subER, subHR, newLt, oldNe, oldOk, oldGe, notIn, ivN, lookN, SubR, Nm.root, Nat.reduceMul, Nat.reduceLeDiff, Nat.reduceEqDiff, Nat.reduceLT, Nat.reduceAdd, Nat.reduceSub, ↓reduceIte, implies_true, reduceCtorEq, ne_eq, ↓shr_eq, IntKind.bits, Int.reduceToNat, Int.reducePow, dite_eq_ite, Value.oneCell', Nat.reduceBEq, Nat.reduceDiv, bnS, bnN, bnT, jsB, J0, J0f]
  refine LoopC.intro (α := Nat) (fun i => i ≤ s.length ∧ ∀ k, k < i → dg (byteAt s k)) (fun i => ⟨[(3, .i i), (0, .str s)], [], 0⟩) (fun i => s.length - i) 0 ⟨Nat.zero_le _, fun k hk => by omega⟩ ?_ ?_
  · simp only [eqC, vlook, vmark, seqN, sameBox, boxJs, vquietR, vopsR, RetC, retW, cellR, undV, vgA, vbinN, vnn, isNilC, isIf, vconvH, vconvO, cvOk, frz1, frzE, jsOk, jsCo, rowsH, vgcH, vgH, vopsT, stepE, Kseq_app, vg_skip, vg_label, vg_seq, vg_region, vg_cond, vg_block, vg_exit, vg_ret, vg_loop, vcallF, vcallH, uls, HdelK, memN, noBox, ninL, keysH, jsAt, AdSub, adopt, noEl, isNil, effL, effO, vopsD, vquiet, vfstD, ldq, ldOk, vops, vfst, vone, vact, ug, addL, vbox, valloc, vstore, vbuild, arrF, vbuildSlice, vappend, vmake, zeroS, zeroE, vstrB, apC, nrm, nr1, nrL, keyL, neqs, diffs, V.app, V.len, vsrc, vdst, mkSl, mkBy, inOrd, placeAll, V.one, V.sto, V.csize, V.parts, V.cellsL, setMany, V.setB, V.setE, V.setO, V.noOwn, V.isOwn, vq, vcall, fzA, fz, fz1, fzL, fzN, rts, rt1, V.er, er1, er2, mixA, mixK, uargs, u1, R.add, vop, vbin, vint2, vstr2, vbool2, vnum, vun, vpick, vpick1, vbool, vconv, vnil, vfieldAddr, vindexAddr, vstEq, vindex, vload, vfield, aggD, vslice, bnd, uopt, vlen, vmin, vextract, Hpk, Hroot, refV, ownR, V.i, V.elems, V.cell, V.cut, V.exact, V.ex0, exL, V.cl, clL, V.sc, scL, scO, scH, V.ct, ct1, ct2, RetP, RetK, RetH, retL, retOne, Back, Veq, subH, obs, obsIf, En.get, En.put, En.ev, enOf, gcond, wantB, constV, exGet, subE, Sub, RV, RVL, NR, RO, subER, subHR, newLt, oldNe, oldOk, oldGe, notIn, ivN, lookN, SubR, Nm.root, Nat.reduceMul, Nat.reduceLeDiff, Nat.reduceEqDiff, Nat.reduceLT, Nat.reduceAdd, Nat.reduceSub, ↓reduceIte, implies_true, reduceCtorEq, ne_eq, ↓shr_eq, IntKind.bits, Int.reduceToNat, Int.reducePow, dite_eq_ite, Value.oneCell', Nat.reduceBEq, Nat.reduceDiv, bnS, bnN, bnT, jsB]
    rfl
  · rintro i ⟨h1, h2⟩
    simp only [eqC, vlook, vmark, seqN, sameBox, boxJs, vquietR, vopsR, RetC, retW, cellR, undV, vgA, vbinN, vnn, isNilC, isIf, vconvH, vconvO, cvOk, frz1, frzE, jsOk, jsCo, rowsH, vgcH, vgH, vopsT, stepE, Kseq_app, vg_skip, vg_label, vg_seq, vg_region, vg_cond, vg_block, vg_exit, vg_ret, vg_loop, vcallF, vcallH, uls, HdelK, memN, noBox, ninL, keysH, jsAt, AdSub, adopt, noEl, isNil, effL, effO, vopsD, vquiet, vfstD, ldq, ldOk, vops, vfst, vone, vact, ug, addL, vbox, valloc, vstore, vbuild, arrF, vbuildSlice, vappend, vmake, zeroS, zeroE, vstrB, apC, nrm, nr1, nrL, keyL, neqs, diffs, V.app, V.len, vsrc, vdst, mkSl, mkBy, inOrd, placeAll, V.one, V.sto, V.csize, V.parts, V.cellsL, setMany, V.setB, V.setE, V.setO, V.noOwn, V.isOwn, vq, vcall, fzA, fz, fz1, fzL, fzN, rts, rt1, V.er, er1, er2, mixA, mixK, uargs, u1, R.add, vop, vbin, vint2, vstr2, vbool2, vnum, vun, vpick, vpick1, vbool, vconv, vnil, vfieldAddr, vindexAddr, vstEq, vindex, vload, vfield, aggD, vslice, bnd, uopt, vlen, vmin, vextract, Hpk, Hroot, refV, ownR, V.i, V.elems, V.cell, V.cut, V.exact, V.ex0, exL, V.cl, clL, V.sc, scL, scO, scH, V.ct, ct1, ct2, RetP, RetK, RetH, retL, retOne, Back, Veq, subH, obs, obsIf, En.get, En.put, En.ev, enOf, gcond, wantB, constV, exGet, subE, Sub, RV, RVL, NR, RO, subER, subHR, newLt, oldNe, oldOk, oldGe, notIn, ivN, lookN, SubR, Nm.root, Nat.reduceMul, Nat.reduceLeDiff, Nat.reduceEqDiff, Nat.reduceLT, Nat.reduceAdd, Nat.reduceSub, ↓reduceIte, implies_true, reduceCtorEq, ne_eq, ↓shr_eq, IntKind.bits, Int.reduceToNat, Int.reducePow, dite_eq_ite, Value.oneCell', Nat.reduceBEq, Nat.reduceDiv, bnS, bnN, bnT, jsB, J0, J0f]
    refine ⟨fun _ => by omega, fun _ => by omega, fun h => by simp at h; omega, fun h => ⟨?_, Again.intro (i + 1) ⟨?_, fun k hk => ?_⟩ ?_ ?_⟩, fun h => ?_⟩
    · simp at h; constructor <;> omega
    · simp at h; omega
    · rcases Nat.lt_or_ge k i with h3 | h3
      · exact h2 k h3
      · obtain rfl : k = i := by omega
        simp at h; unfold dg; omega
    · simp at h; omega
    · simp only [eqC, vlook, vmark, seqN, sameBox, boxJs, vquietR, vopsR, RetC, retW, cellR, undV, vgA, vbinN, vnn, isNilC, isIf, vconvH, vconvO, cvOk, frz1, frzE, jsOk, jsCo, rowsH, vgcH, vgH, vopsT, stepE, Kseq_app, vg_skip, vg_label, vg_seq, vg_region, vg_cond, vg_block, vg_exit, vg_ret, vg_loop, vcallF, vcallH, uls, HdelK, memN, noBox, ninL, keysH, jsAt, AdSub, adopt, noEl, isNil, effL, effO, vopsD, vquiet, vfstD, ldq, ldOk, vops, vfst, vone, vact, ug, addL, vbox, valloc, vstore, vbuild, arrF, vbuildSlice, vappend, vmake, zeroS, zeroE, vstrB, apC, nrm, nr1, nrL, keyL, neqs, diffs, V.app, V.len, vsrc, vdst, mkSl, mkBy, inOrd, placeAll, V.one, V.sto, V.csize, V.parts, V.cellsL, setMany, V.setB, V.setE, V.setO, V.noOwn, V.isOwn, vq, vcall, fzA, fz, fz1, fzL, fzN, rts, rt1, V.er, er1, er2, mixA, mixK, uargs, u1, R.add, vop, vbin, vint2, vstr2, vbool2, vnum, vun, vpick, vpick1, vbool, vconv, vnil, vfieldAddr, vindexAddr, vstEq, vindex, vload, vfield, aggD, vslice, bnd, uopt, vlen, vmin, vextract, Hpk, Hroot, refV, ownR, V.i, V.elems, V.cell, V.cut, V.exact, V.ex0, exL, V.cl, clL, V.sc, scL, scO, scH, V.ct, ct1, ct2, RetP, RetK, RetH, retL, retOne, Back, Veq, subH, obs, obsIf, En.get, En.put, En.ev, enOf, gcond, wantB, constV, exGet, subE, Sub, RV, RVL, NR, RO, subER, subHR, newLt, oldNe, oldOk, oldGe, notIn, ivN, lookN, SubR, Nm.root, Nat.reduceMul, Nat.reduceLeDiff, Nat.reduceEqDiff, Nat.reduceLT, Nat.reduceAdd, Nat.reduceSub, ↓reduceIte, implies_true, reduceCtorEq, ne_eq, ↓shr_eq, IntKind.bits, Int.reduceToNat, Int.reducePow, dite_eq_ite, Value.oneCell', Nat.reduceBEq, Nat.reduceDiv, bnS, bnN, bnT, jsB]
      simp
    · have := runF_is h1 h2 (fun hi => by simp [hi] at h; unfold dg; omega)
      rw [this]
theorem cutPrefix_fn (J : Inv) (s p : List UInt8) : Fn Tryd.prog J 29 false [.str s, .str p] (.tu [.str (Lib.trimPrefix s p), .bb (Lib.hasPrefix s p)]) := by
  refine ⟨⟨_, Tryd.func29, by kernel_rfl, by kernel_rfl⟩, fun w F vs hI hF hlen hvs => ?_⟩
  obtain ⟨x, y, rfl⟩ : ∃ x y, vs = [x, y] := by match vs, hlen with | [x, y], _ => exact ⟨x, y, rfl⟩
  obtain rfl := rep_str (hvs 0 _ x rfl rfl)
  obtain rfl := rep_str (hvs 1 _ y rfl rfl)
  refine (Tryd.strings_CutPrefix ⟨s.toArray⟩ ⟨p.toArray⟩ w).mono fun e w' he => ?_
  obtain ⟨rfl, rfl⟩ := he
  refine ⟨_, rfl, Ext.refl _, .tu _ _ (fun j => if j = 0 then .string ⟨(Lib.trimPrefix s p).toArray⟩ else .bool (Lib.hasPrefix s p)) rfl (fun j hj => ?_) (fun j hj => ?_)⟩
  · have : j = 0 ∨ j = 1 := by simp at hj; omega
    rcases this with rfl | rfl <;> rfl
  · have : j = 0 ∨ j = 1 := by simp at hj; omega
    rcases this with rfl | rfl
    · exact .str _
    · exact .bb _
theorem trimL_fn (J : Inv) (s : List UInt8) : Fn Tryd.prog J 31 false [.str s, .str [48]] (.str (Lib.trimLeftB s 48)) := by
  refine ⟨⟨_, Tryd.func31, by kernel_rfl, by kernel_rfl⟩, fun w F vs hI hF hlen hvs => ?_⟩
  obtain ⟨x, y, rfl⟩ : ∃ x y, vs = [x, y] := by match vs, hlen with | [x, y], _ => exact ⟨x, y, rfl⟩
  obtain rfl := rep_str (hvs 0 _ x rfl rfl)
  obtain rfl := rep_str (hvs 1 _ y rfl rfl)
  refine (Tryd.strings_TrimLeft_one ⟨s.toArray⟩ 48 (by decide) w).mono fun e w' he => ?_
  obtain ⟨rfl, rfl⟩ := he
  exact ⟨_, rfl, Ext.refl _, .str _⟩
theorem trimR_fn (J : Inv) (s : List UInt8) (hl : s.length ≤ 140737488355328) : Fn Tryd.prog J 32 false [.str s, .str [48]] (.str (Lib.trimRightB s 48)) := by
  refine ⟨⟨_, Tryd.func32, by kernel_rfl, by kernel_rfl⟩, fun w F vs hI hF hlen hvs => ?_⟩
  obtain ⟨x, y, rfl⟩ : ∃ x y, vs = [x, y] := by match vs, hlen with | [x, y], _ => exact ⟨x, y, rfl⟩
  obtain rfl := rep_str (hvs 0 _ x rfl rfl)
  obtain rfl := rep_str (hvs 1 _ y rfl rfl)
  refine (Tryd.strings_TrimRight_one ⟨s.toArray⟩ 48 (by decide) w (by simp [ByteArray.size]; omega)).mono fun e w' he => ?_
  obtain ⟨rfl, rfl⟩ := he
  exact ⟨_, rfl, Ext.refl _, .str _⟩
def JRf : FuncId → List V → Option (List Prop × Bool × V) := fun f args =>
  if f = 30 then match args with
    | [.str s] => some ([s.length ≤ 140737488355328], false, .i (runF s))
    | _ => none
  else if f = 29 then match args with
    | [.str s, .str p] => some ([], false, .tu [.str (Lib.trimPrefix s p), .bb (Lib.hasPrefix s p)])
    | _ => none
  else if f = 31 then match args with
    | [.str s, .str p] => some ([p = [48]], false, .str (Lib.trimLeftB s 48))
    | _ => none
  else if f = 32 then match args with
    | [.str s, .str p] => some ([p = [48], s.length ≤ 140737488355328], false, .str (Lib.trimRightB s 48))
    | _ => none
  else none
def JR (J : Inv) : Sig := ⟨J, jdf, JRf, noH, 0⟩
theorem JR_ok (J : Inv) : SigOk Tryd.prog (JR J) := by
  refine .plain fun f args l fr r h hl => ?_
  change JRf f args = some (l, fr, r) at h
  unfold JRf at h
  split at h
  · rename_i hf; subst hf
    split at h
    · obtain ⟨rfl, rfl, rfl⟩ := jsome_tri h; exact run_fn J _ (hl _ (by simp))
    · exact absurd h (by simp)
  · split at h
    · rename_i hf; subst hf
      split at h
      · obtain ⟨rfl, rfl, rfl⟩ := jsome_tri h; exact cutPrefix_fn J _ _
      · exact absurd h (by simp)
    · split at h
      · rename_i hf; subst hf
        split at h
        · rename_i s p
          obtain ⟨rfl, rfl, rfl⟩ := jsome_tri h
          obtain rfl : p = [48] := hl (p = [48]) (by simp)
          exact trimL_fn J _
        · exact absurd h (by simp)
      · split at h
        · rename_i hf; subst hf
          split at h
          · rename_i s p
            obtain ⟨rfl, rfl, rfl⟩ := jsome_tri h
            obtain rfl : p = [48] := hl (p = [48]) (by simp)
            exact trimR_fn J _ (hl (s.length ≤ _) (by simp))
          · exact absurd h (by simp)
        · exact absurd h (by simp)
end Go.Proofs.YtbjfhnbgiajnjaaDoor
