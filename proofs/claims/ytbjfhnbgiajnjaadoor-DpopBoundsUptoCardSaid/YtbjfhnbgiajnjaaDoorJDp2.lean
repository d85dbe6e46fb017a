/- DpopBounds: the contracts of what the law calls. -/
import Derived.Test.YtbjfhnbgiajnjaaDoorJDpo
import Derived.Test.YtbjfhnbgiajnjaaDoorJShq
import Derived.Test.YtbjfhnbgiajnjaaDoorJRw
namespace Go.Proofs.YtbjfhnbgiajnjaaDoor
open Go.RowKit
set_option linter.unusedSimpArgs false
set_option maxRecDepth 100000
abbrev JX0 (J : Inv) : Sig := JX J boundF (fun v => beyF v []) (mks 20)
theorem big_kid {v : List Nd} (h : Big v) (i : Nat) : (v.getD i default).kids ≤ 9223372036854775807 := by
  rw [List.getD_eq_getElem?_getD]
  cases hg : v[i]? with
  | none => decide
  | some n => exact h.kid n (List.mem_of_getElem? hg)
theorem JX_ok (J : Inv) (hJ : ∀ w F, J.I w F → JU.I w F) : SigOk Tryd.prog (JX0 J) := by
  refine ⟨fun f args l fr r h hl => ?_, fun f args h nx c hc hl => ?_⟩
  · change JXf boundF (fun v => beyF v []) f args = some (l, fr, r) at h
    unfold JXf at h
    split at h
    · rename_i hf; subst hf
      split at h
      · rename_i dd L
        obtain ⟨rfl, rfl, rfl⟩ := jsome_tri h
        have e1 : dd = ndD := hl _ (by simp)
        have e2 : L = nds (unN L) := hl _ (by simp)
        have e3 : Big (unN L) := hl _ (by simp)
        subst e1
        have := beyond_fn J (unN L) e3.1 (big_kid e3)
        unfold ndsV at this
        rw [← e2] at this
        exact this
      · exact absurd h (by simp)
    · split at h
      · rename_i hf; subst hf
        split at h
        · rename_i dd L a1 a2 a3 a4 b1 b2 b3 a5 a6 a7 a8 a9 a10 a11 a12 a13
          obtain ⟨rfl, rfl, rfl⟩ := jsome_tri h
          have e1 : dd = ndD := hl _ (by simp)
          have e2 : L = nds (unN L) := hl _ (by simp)
          have e3 : Big (unN L) := hl _ (by simp)
          subst e1
          have := jBound_fn J (jShaped_fn J hJ) (unN L) ⟨a1, a2, a3, a4, b1, b2, b3, a5, a6, a7, a8, a9, a10, a11, a12, a13⟩ e3
          unfold ndsV at this
          rw [← e2] at this
          exact this
        · exact absurd h (by simp)
      · split at h
        · rename_i hf; subst hf
          split at h
          · rename_i dd L a1 a2 a3 a4 b1 b2 b3 a5 a6 a7 a8 a9 a10 a11 a12 a13
            obtain ⟨rfl, rfl, rfl⟩ := jsome_tri h
            have e1 : dd = ndD := hl _ (by simp)
            have e2 : L = nds (unN L) := hl _ (by simp)
            have e3 : Big (unN L) := hl _ (by simp)
            subst e1
            have := rBound_fn J (rPlain_fn J) (unN L) ⟨a1, a2, a3, a4, b1, b2, b3, a5, a6, a7, a8, a9, a10, a11, a12, a13⟩ e3
            unfold ndsV at this
            rw [← e2] at this
            exact this
          · exact absurd h (by simp)
        · exact absurd h (by simp)
  · change JXh (mks 20) f args h nx = some c at hc
    unfold JXh at hc
    split at hc
    · rename_i hf; subst hf
      split at hc
      · rename_i v
        split at hc
        · rename_i dd L hv
          obtain rfl := Option.some.inj hc
          have e1 : dd = ndD := hl _ (by simp)
          have e2 : L = nds (unN L) := hl _ (by simp)
          have e3 : Big (unN L) := hl _ (by simp)
          subst e1
          have := lent_own J (unN L) nx e3.1
          unfold ndsV at this
          rw [← e2] at this
          simp only [mixA, hv]
          exact this
        · exact absurd hc (by simp)
      · exact absurd hc (by simp)
    · split at hc
      · rename_i hf; subst hf
        split at hc
        · rename_i k n dd L
          obtain rfl := Option.some.inj hc
          have e1 : dd = ndD := hl _ (by simp)
          have e2 : L = nds (unN L) := hl _ (by simp)
          have e3 : Big (unN L) := hl _ (by simp)
          have e4 : n = (unN L).length := hl _ (by simp)
          subst e1 e4
          have := whole_own J (unN L) k nx e3.1
          unfold ndsV at this
          rw [← e2] at this
          have e5 : (fz h (V.sq 6 ndD L)).1 = V.sq 6 ndD L := by rw [e2]; simp only [eqC, vlook, vmark, seqN, sameBox, boxJs, vquietR, vopsR, RetC, retW, cellR, undV, vgA, vbinN, vnn, isNilC, isIf, vconvH, vconvO, cvOk, frz1, frzE, jsOk, jsCo, rowsH, vgcH, vgH, vopsT, stepE, Kseq_app, vg_skip, vg_label, vg_seq, vg_region, vg_cond, vg_block, vg_exit, vg_ret, vg_loop, vcallF, vcallH, uls, HdelK, memN, noBox, ninL, keysH, jsAt, AdSub, adopt, noEl, isNil, effL, effO, vopsD, vquiet, vfstD, ldq, ldOk, vops, vfst, vone, vact, ug, addL, vbox, valloc, vstore, vbuild, arrF, vbuildSlice, vappend, vmake, zeroS, zeroE, vstrB, apC, nrm, nr1, nrL, keyL, neqs, diffs, V.app, V.len, vsrc, vdst, mkSl, mkBy, inOrd, placeAll, V.one, V.sto, V.csize, V.parts, V.cellsL, setMany, V.setB, V.setE, V.setO, V.noOwn, V.isOwn, vq, vcall, fzA, fz, fz1, fzL, fzN, rts, rt1, V.er, er1, er2, mixA, mixK, uargs, u1, R.add, vop, vbin, vint2, vstr2, vbool2, vnum, vun, vpick, vpick1, vbool, vconv, vnil, vfieldAddr, vindexAddr, vstEq, vindex, vload, vfield, aggD, vslice, bnd, uopt, vlen, vmin, vextract, Hpk, Hroot, refV, ownR, V.i, V.elems, V.cell, V.cut, V.exact, V.ex0, exL, V.cl, clL, V.sc, scL, scO, scH, V.ct, ct1, ct2, RetP, RetK, RetH, retL, retOne, Back, Veq, subH, obs, obsIf, En.get, En.put, En.ev, enOf, gcond, wantB, constV, exGet, subE, Sub, RV, RVL, NR, RO, subER, subHR, newLt, oldNe, oldOk, oldGe, notIn, ivN, lookN, SubR, Nm.root, Nat.reduceMul, Nat.reduceLeDiff, Nat.reduceEqDiff, Nat.reduceLT, Nat.reduceAdd, Nat.reduceSub, ↓reduceIte, implies_true, reduceCtorEq, ne_eq, ↓shr_eq, IntKind.bits, Int.reduceToNat, Int.reducePow, dite_eq_ite, Value.oneCell', Nat.reduceBEq, Nat.reduceDiv, bnS, bnN, bnT, jsB, ndD]
          simp only [mixA, e5]
          exact this
        · exact absurd hc (by simp)
      · exact absurd hc (by simp)
theorem DpopBounds_fn (J : Inv) (hJ : ∀ w F, J.I w F → JU.I w F) (v : List Nd) (c : Cl) (hv : Big v) (hb : Big (chF v v.length)) : Fn Tryd.prog J 3 false [clV (ndsV v) c] (.bb true) :=
  law_own J boundF (fun v => beyF v []) (mks 20) (mks_len 20) (JX_ok J hJ) v c hv hb
end Go.Proofs.YtbjfhnbgiajnjaaDoor
