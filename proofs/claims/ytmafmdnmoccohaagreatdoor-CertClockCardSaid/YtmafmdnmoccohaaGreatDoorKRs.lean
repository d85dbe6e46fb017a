/- x509's reader once something is not as it must be: the signed part; Parse of one empty sequence. -/
import Derived.Test.YtmafmdnmoccohaaGreatDoorKRe
import Derived.Test.YtmafmdnmoccohaaGreatDoorDPar
namespace Go.Proofs.YtmafmdnmoccohaaGreatDoor
open Go.RowKit
set_option linter.unusedSimpArgs false
set_option maxRecDepth 100000
theorem signed_bad (n : Nat) : FnH Tryz.prog JC 19 [.op 1 0] [(1, rdB 1 true 0)] (n + 2) (.tu []) [(1, rdB 1 true (-1))] (n + 50) := by
  refine fnH_intro Tryz.func19 rfl (by kernel_rfl) (Nat.le_of_ble_eq_true (by kernel_rfl)) (by kernel_rfl) (by kernel_rfl) (GQ3_ok (n + 2)) rfl ?_
  unfold Tryz.f19
  simp only [vmark, seqN, sameBox, boxJs, vquietR, vopsR, RetC, retW, cellR, undV, vgA, vbinN, vnn, isNilC, isIf, vconvH, vconvO, cvOk, frz1, frzE, jsOk, jsCo, rowsH, vgcH, vgH, vopsT, stepE, Kseq_app, vg_skip, vg_label, vg_seq, vg_region, vg_cond, vg_block, vg_exit, vg_ret, vg_loop, vcallF, vcallH, uls, HdelK, memN, noBox, ninL, keysH, jsAt, AdSub, adopt, noEl, isNil, effL, effO, vopsD, vquiet, vfstD, ldq, ldOk, vops, vfst, vone, vact, ug, addL, vbox, valloc, vstore, vbuild, arrF, vbuildSlice, vappend, vmake, zeroS, zeroE, vstrB, apC, nrm, nr1, nrL, keyL, neqs, diffs, V.app, V.len, vsrc, vdst, mkSl, mkBy, inOrd, placeAll, V.one, V.sto, V.csize, V.parts, V.cellsL, setMany, V.setB, V.setE, V.setO, V.noOwn, V.isOwn, vq, vcall, fzA, fz, fz1, fzL, fzN, rts, rt1, V.er, er1, er2, mixA, mixK, uargs, u1, R.add, vop, vbin, vint2, vstr2, vbool2, vnum, vun, vpick, vpick1, vbool, vconv, vnil, vfieldAddr, vindexAddr, vstEq, vindex, vload, vfield, aggD, vslice, bnd, uopt, vlen, vmin, vextract, Hpk, Hroot, refV, ownR, V.i, V.elems, V.cell, V.cut, V.exact, V.ex0, exL, V.cl, clL, V.sc, scL, scO, scH, V.ct, ct1, ct2, RetP, RetK, RetH, retL, retOne, Back, Veq, subH, obs, obsIf, En.get, En.put, En.ev, enOf, gcond, wantB, constV, exGet, subE, Sub, RV, RVL, NR, RO, subER, subHR, newLt, oldNe, oldOk, oldGe, notIn, ivN, lookN, SubR, Nm.root, Nat.reduceMul, Nat.reduceLeDiff, Nat.reduceEqDiff, Nat.reduceLT, Nat.reduceAdd, Nat.reduceSub, ↓reduceIte, implies_true, reduceCtorEq, ne_eq, ↓shr_eq, IntKind.bits, Int.reduceToNat, Int.reducePow, dite_eq_ite, Value.oneCell', Nat.reduceBEq, Nat.reduceDiv, bnS, bnN, bnT, tlsV, tlvD, tloV, tlvOD, bnB, GQ3, GQ3h, hRet, GQ2, GQ2f, GQ2h, hTake, hNeed, hOpen, rdOf, rdB, rdV, nilS, tlsV, tlv0, GQ1h, Int.reduceLE, Int.reduceLT, Int.reduceBEq, Int.reduceEq, Int.reduceAdd, Int.reduceSub, Int.reduceToNat]
  refine ⟨(fun h => by simp at h), (fun h => by cases h), fun _ => ⟨(fun h => by cases h), fun _ => ⟨(fun h => by cases h), fun _ => RenC.skip ?_⟩⟩⟩
  simp only [vmark, seqN, sameBox, boxJs, vquietR, vopsR, RetC, retW, cellR, undV, vgA, vbinN, vnn, isNilC, isIf, vconvH, vconvO, cvOk, frz1, frzE, jsOk, jsCo, rowsH, vgcH, vgH, vopsT, stepE, Kseq_app, vg_skip, vg_label, vg_seq, vg_region, vg_cond, vg_block, vg_exit, vg_ret, vg_loop, vcallF, vcallH, uls, HdelK, memN, noBox, ninL, keysH, jsAt, AdSub, adopt, noEl, isNil, effL, effO, vopsD, vquiet, vfstD, ldq, ldOk, vops, vfst, vone, vact, ug, addL, vbox, valloc, vstore, vbuild, arrF, vbuildSlice, vappend, vmake, zeroS, zeroE, vstrB, apC, nrm, nr1, nrL, keyL, neqs, diffs, V.app, V.len, vsrc, vdst, mkSl, mkBy, inOrd, placeAll, V.one, V.sto, V.csize, V.parts, V.cellsL, setMany, V.setB, V.setE, V.setO, V.noOwn, V.isOwn, vq, vcall, fzA, fz, fz1, fzL, fzN, rts, rt1, V.er, er1, er2, mixA, mixK, uargs, u1, R.add, vop, vbin, vint2, vstr2, vbool2, vnum, vun, vpick, vpick1, vbool, vconv, vnil, vfieldAddr, vindexAddr, vstEq, vindex, vload, vfield, aggD, vslice, bnd, uopt, vlen, vmin, vextract, Hpk, Hroot, refV, ownR, V.i, V.elems, V.cell, V.cut, V.exact, V.ex0, exL, V.cl, clL, V.sc, scL, scO, scH, V.ct, ct1, ct2, RetP, RetK, RetH, retL, retOne, Back, Veq, subH, obs, obsIf, En.get, En.put, En.ev, enOf, gcond, wantB, constV, exGet, subE, Sub, RV, RVL, NR, RO, subER, subHR, newLt, oldNe, oldOk, oldGe, notIn, ivN, lookN, SubR, Nm.root, Nat.reduceMul, Nat.reduceLeDiff, Nat.reduceEqDiff, Nat.reduceLT, Nat.reduceAdd, Nat.reduceSub, ↓reduceIte, implies_true, reduceCtorEq, ne_eq, ↓shr_eq, IntKind.bits, Int.reduceToNat, Int.reducePow, dite_eq_ite, Value.oneCell', Nat.reduceBEq, Nat.reduceDiv, bnS, bnN, bnT, tlsV, tlvD, tloV, tlvOD, bnB, nilS]
  omega
theorem parse_48 : parseF [48, 0] = ([⟨48, [], 0⟩], 0, 0) := by kernel_rfl
def GQ4f : FuncId → List V → Option (List Prop × Bool × V) := fun f args =>
  if f = 17 then match args with
    | [.by l] => some ([l = [48, 0]], false, .tu [tlsV [⟨48, [], 0⟩], .i 0, .i 0])
    | _ => none
  else none
def GQ4h : FuncId → List V → List (Nat × Ob) → Nat → Option CallH := fun f args h nx =>
  if f = 19 then match args with
    | [.op 1 0] => match rdOf (Hroot h 1) with
      | some (_, _, _) => some ⟨[2 ≤ nx], [], [(1, rdB 1 true 0)], .tu [], [(1, rdB 1 true (-1))], nx + 48⟩
      | none => none
    | _ => none
  else GQ3h f args h nx
def GQ4 : Sig := ⟨JC, kdf, GQ4f, GQ4h, 0⟩
theorem GQ4_ok : SigOk Tryz.prog GQ4 := by
  refine ⟨fun f args l fr r h hl => ?_, fun f args h nx c hc hl => ?_⟩
  · change GQ4f f args = some (l, fr, r) at h
    unfold GQ4f at h
    split at h
    · rename_i hf; subst hf
      split at h
      · rename_i l0
        obtain ⟨rfl, rfl, rfl⟩ := ksome_tri h
        obtain rfl : l0 = [48, 0] := hl (l0 = [48, 0]) (by simp)
        have := parse_fn JC [48, 0] (by simp)
        rw [parse_48] at this
        exact this
      · exact absurd h (by simp)
    · exact absurd h (by simp)
  · change GQ4h f args h nx = some c at hc
    unfold GQ4h at hc
    split at hc
    · rename_i hf; subst hf
      split at hc
      · split at hc
        · obtain rfl := Option.some.inj hc
          have h2 : 2 ≤ nx := hl _ (by simp)
          obtain ⟨n, rfl⟩ : ∃ n, nx = n + 2 := ⟨nx - 2, by omega⟩
          exact signed_bad n
        · cases hc
      · cases hc
    · obtain ⟨h1, h2⟩ := GQ3h_ok hc hl
      rw [h1]; exact h2
end Go.Proofs.YtmafmdnmoccohaaGreatDoor
