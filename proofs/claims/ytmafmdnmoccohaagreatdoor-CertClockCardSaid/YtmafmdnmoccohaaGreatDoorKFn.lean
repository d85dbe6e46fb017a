/- Leaves of x509's dates: the walks. -/
import Derived.Test.YtmafmdnmoccohaaGreatDoorKInv
import Derived.Test.YtmafmdnmoccohaaGreatDoorTime
import Derived.Test.YtmafmdnmoccohaaGreatDoorShelf
import Derived.Lib.AtoiErrMem
namespace Go.Proofs.YtmafmdnmoccohaaGreatDoor
open Go.RowKit
set_option linter.unusedSimpArgs false
set_option maxRecDepth 100000
def kdf (t : TypeId) : V := if t = 3 then .val (.int .i64 0) else .any
def GK0f : FuncId → List V → Option (List Prop × Bool × V) := fun _ _ => none
def GK0 : Sig := ⟨JC, kdf, GK0f, noH, 0⟩
theorem GK0_ok : SigOk Tryz.prog GK0 := .plain fun _ _ _ _ _ h => by simp [GK0f] at h
theorem ksome_tri {α β γ : Type} {a d : α} {b e : β} {c f : γ} (h : some (a, b, c) = some (d, e, f)) : a = d ∧ b = e ∧ c = f := by simpa using h
theorem byteAt_ext {a b : List UInt8} (hl : a.length = b.length) (h : ∀ k, k < a.length → byteAt a k = byteAt b k) : a = b := by
  apply List.ext_getElem hl
  intro i h1 h2
  have := h i h1
  unfold byteAt at this
  rw [List.getD_eq_getElem?_getD, List.getD_eq_getElem?_getD, List.getElem?_eq_getElem h1, List.getElem?_eq_getElem h2] at this
  simp only [Option.getD_some] at this
  exact UInt8.toNat_inj.1 (by omega)
theorem atoi_fn (s : List UInt8) (n : Int) (hl : s.length ≤ 18) (h : Lib.atoi s = some n) : Fn Tryz.prog JC 25 false [.str s] (.tu [.i n, .val .nilIface]) := by
  refine ⟨⟨_, Tryz.func25, by kernel_rfl, by kernel_rfl⟩, fun w F vs hI hF hlen hvs => ?_⟩
  obtain ⟨x, rfl⟩ : ∃ x, vs = [x] := List.length_eq_one_iff.1 hlen
  obtain rfl := rep_str (hvs 0 _ x rfl rfl)
  refine (Tryz.strconv_Atoi ⟨s.toArray⟩ n (by simpa [ByteArray.size] using hl) (by simpa using h) w).mono fun e w' he => ?_
  obtain ⟨rfl, t, rfl⟩ := he
  refine ⟨_, rfl, Lib.bytesWorld_below _ _ _, .tu _ _ (fun j => if j = 0 then .int .i64 n else .nilIface) rfl (fun j hj => ?_) (fun j hj => ?_)⟩
  · have : j = 0 ∨ j = 1 := by simp at hj; omega
    rcases this with rfl | rfl <;> rfl
  · have : j = 0 ∨ j = 1 := by simp at hj; omega
    rcases this with rfl | rfl <;> exact .val _
theorem within_fn (n a b : Int) : Fn Tryz.prog JC 14 false [.i n, .i a, .i b] (.bb (decide (a ≤ n) && decide (n ≤ b))) := by
  refine fn_intro Tryz.func14 rfl (by kernel_rfl) (Nat.le_of_ble_eq_true (by kernel_rfl)) (by kernel_rfl) (by kernel_rfl) rfl GK0_ok ?_
  unfold Tryz.f14
  simp only [vmark, seqN, sameBox, boxJs, vquietR, vopsR, RetC, retW, cellR, undV, vgA, vbinN, vnn, isNilC, isIf, vconvH, vconvO, cvOk, frz1, frzE, jsOk, jsCo, rowsH, vgcH, vgH, vopsT, stepE, Kseq_app, vg_skip, vg_label, vg_seq, vg_region, vg_cond, vg_block, vg_exit, vg_ret, vg_loop, vcallF, vcallH, uls, HdelK, memN, noBox, ninL, keysH, jsAt, AdSub, adopt, noEl, isNil, effL, effO, vopsD, vquiet, vfstD, ldq, ldOk, vops, vfst, vone, vact, ug, addL, vbox, valloc, vstore, vbuild, arrF, vbuildSlice, vappend, vmake, zeroS, zeroE, vstrB, apC, nrm, nr1, nrL, keyL, neqs, diffs, V.app, V.len, vsrc, vdst, mkSl, mkBy, inOrd, placeAll, V.one, V.sto, V.csize, V.parts, V.cellsL, setMany, V.setB, V.setE, V.setO, V.noOwn, V.isOwn, vq, vcall, fzA, fz, fz1, fzL, fzN, rts, rt1, V.er, er1, er2, mixA, mixK, uargs, u1, R.add, vop, vbin, vint2, vstr2, vbool2, vnum, vun, vpick, vpick1, vbool, vconv, vnil, vfieldAddr, vindexAddr, vstEq, vindex, vload, vfield, aggD, vslice, bnd, uopt, vlen, vmin, vextract, Hpk, Hroot, refV, ownR, V.i, V.elems, V.cell, V.cut, V.exact, V.ex0, exL, V.cl, clL, V.sc, scL, scO, scH, V.ct, ct1, ct2, RetP, RetK, RetH, retL, retOne, Back, Veq, subH, obs, obsIf, En.get, En.put, En.ev, enOf, gcond, wantB, constV, exGet, subE, Sub, RV, RVL, NR, RO, subER, subHR, newLt, oldNe, oldOk, oldGe, notIn, ivN, lookN, SubR, Nm.root, Nat.reduceMul, Nat.reduceLeDiff, Nat.reduceEqDiff, Nat.reduceLT, Nat.reduceAdd, Nat.reduceSub, ↓reduceIte, implies_true, reduceCtorEq, ne_eq, ↓shr_eq, IntKind.bits, Int.reduceToNat, Int.reducePow, dite_eq_ite, Value.oneCell', Nat.reduceBEq, Nat.reduceDiv, bnS, bnN, bnT, GK0, GK0f]
theorem days_fn (y m d : Int) (h0 : 1 ≤ y) (h1 : y ≤ 10000) (m0 : 1 ≤ m) (m1 : m ≤ 13) (d0 : 0 ≤ d) (d1 : d ≤ 100) : Fn Tryz.prog JC 15 false [.i y, .i m, .i d] (.i (daysF y m d)) := by
  refine fn_intro Tryz.func15 rfl (by kernel_rfl) (Nat.le_of_ble_eq_true (by kernel_rfl)) (by kernel_rfl) (by kernel_rfl) rfl GK0_ok ?_
  unfold Tryz.f15
  simp only [vmark, seqN, sameBox, boxJs, vquietR, vopsR, RetC, retW, cellR, undV, vgA, vbinN, vnn, isNilC, isIf, vconvH, vconvO, cvOk, frz1, frzE, jsOk, jsCo, rowsH, vgcH, vgH, vopsT, stepE, Kseq_app, vg_skip, vg_label, vg_seq, vg_region, vg_cond, vg_block, vg_exit, vg_ret, vg_loop, vcallF, vcallH, uls, HdelK, memN, noBox, ninL, keysH, jsAt, AdSub, adopt, noEl, isNil, effL, effO, vopsD, vquiet, vfstD, ldq, ldOk, vops, vfst, vone, vact, ug, addL, vbox, valloc, vstore, vbuild, arrF, vbuildSlice, vappend, vmake, zeroS, zeroE, vstrB, apC, nrm, nr1, nrL, keyL, neqs, diffs, V.app, V.len, vsrc, vdst, mkSl, mkBy, inOrd, placeAll, V.one, V.sto, V.csize, V.parts, V.cellsL, setMany, V.setB, V.setE, V.setO, V.noOwn, V.isOwn, vq, vcall, fzA, fz, fz1, fzL, fzN, rts, rt1, V.er, er1, er2, mixA, mixK, uargs, u1, R.add, vop, vbin, vint2, vstr2, vbool2, vnum, vun, vpick, vpick1, vbool, vconv, vnil, vfieldAddr, vindexAddr, vstEq, vindex, vload, vfield, aggD, vslice, bnd, uopt, vlen, vmin, vextract, Hpk, Hroot, refV, ownR, V.i, V.elems, V.cell, V.cut, V.exact, V.ex0, exL, V.cl, clL, V.sc, scL, scO, scH, V.ct, ct1, ct2, RetP, RetK, RetH, retL, retOne, Back, Veq, subH, obs, obsIf, En.get, En.put, En.ev, enOf, gcond, wantB, constV, exGet, subE, Sub, RV, RVL, NR, RO, subER, subHR, newLt, oldNe, oldOk, oldGe, notIn, ivN, lookN, SubR, Nm.root, Nat.reduceMul, Nat.reduceLeDiff, Nat.reduceEqDiff, Nat.reduceLT, Nat.reduceAdd, Nat.reduceSub, ↓reduceIte, implies_true, reduceCtorEq, ne_eq, ↓shr_eq, IntKind.bits, Int.reduceToNat, Int.reducePow, dite_eq_ite, Value.oneCell', Nat.reduceBEq, Nat.reduceDiv, bnS, bnN, bnT, GK0, GK0f]
  rw [daysF_def]
  unfold dayF
  refine ⟨fun h => ?_, fun h => ?_⟩
  · simp only [decide_eq_true_eq] at h
    rw [if_pos h]
    repeat' apply And.intro
    all_goals first | omega | (constructor <;> omega)
  · simp only [decide_eq_false_iff_not] at h
    rw [if_neg h]
    repeat' apply And.intro
    all_goals first | omega | (constructor <;> omega)
def GK1f : FuncId → List V → Option (List Prop × Bool × V) := fun f args =>
  if f = 25 then match args with
    | [.str s] => some ([s.length ≤ 18, (Lib.atoi s).isSome = true], false, .tu [.i ((Lib.atoi s).getD 0), .val .nilIface])
    | _ => none
  else none
def GK1 : Sig := ⟨JC, kdf, GK1f, noH, 0⟩
theorem GK1_ok : SigOk Tryz.prog GK1 := by
  refine .plain fun f args l fr r h hl => ?_
  change GK1f f args = some (l, fr, r) at h
  unfold GK1f at h
  split at h
  · rename_i hf; subst hf
    split at h
    · rename_i s
      obtain ⟨rfl, rfl, rfl⟩ := ksome_tri h
      have h1 : s.length ≤ 18 := hl _ (by simp)
      have h2 : (Lib.atoi s).isSome = true := hl _ (by simp)
      obtain ⟨n, hn⟩ := Option.isSome_iff_exists.1 h2
      rw [hn]
      exact atoi_fn s n h1 hn
    · exact absurd h (by simp)
  · exact absurd h (by simp)
theorem number_fn (s : List UInt8) (hs : 0 < s.length) (hl : s.length ≤ 18) : Fn Tryz.prog JC 13 false [.str s] (.i (numF s)) := by
  refine fn_intro Tryz.func13 rfl (by kernel_rfl) (Nat.le_of_ble_eq_true (by kernel_rfl)) (by kernel_rfl) (by kernel_rfl) rfl GK1_ok ?_
  unfold Tryz.f13
  simp only [vmark, seqN, sameBox, boxJs, vquietR, vopsR, RetC, retW, cellR, undV, vgA, vbinN, vnn, isNilC, isIf, vconvH, vconvO, cvOk, frz1, frzE, jsOk, jsCo, rowsH, vgcH, vgH, vopsT, stepE, Kseq_app, vg_skip, vg_label, vg_seq, vg_region, vg_cond, vg_block, vg_exit, vg_ret, vg_loop, vcallF, vcallH, uls, HdelK, memN, noBox, ninL, keysH, jsAt, AdSub, adopt, noEl, isNil, effL, effO, vopsD, vquiet, vfstD, ldq, ldOk, vops, vfst, vone, vact, ug, addL, vbox, valloc, vstore, vbuild, arrF, vbuildSlice, vappend, vmake, zeroS, zeroE, vstrB, apC, nrm, nr1, nrL, keyL, neqs, diffs, V.app, V.len, vsrc, vdst, mkSl, mkBy, inOrd, placeAll, V.one, V.sto, V.csize, V.parts, V.cellsL, setMany, V.setB, V.setE, V.setO, V.noOwn, V.isOwn, vq, vcall, fzA, fz, fz1, fzL, fzN, rts, rt1, V.er, er1, er2, mixA, mixK, uargs, u1, R.add, vop, vbin, vint2, vstr2, vbool2, vnum, vun, vpick, vpick1, vbool, vconv, vnil, vfieldAddr, vindexAddr, vstEq, vindex, vload, vfield, aggD, vslice, bnd, uopt, vlen, vmin, vextract, Hpk, Hroot, refV, ownR, V.i, V.elems, V.cell, V.cut, V.exact, V.ex0, exL, V.cl, clL, V.sc, scL, scO, scH, V.ct, ct1, ct2, RetP, RetK, RetH, retL, retOne, Back, Veq, subH, obs, obsIf, En.get, En.put, En.ev, enOf, gcond, wantB, constV, exGet, subE, Sub, RV, RVL, NR, RO, subER, subHR, newLt, oldNe, oldOk, oldGe, notIn, ivN, lookN, SubR, Nm.root, Nat.reduceMul, Nat.reduceLeDiff, Nat.reduceEqDiff, Nat.reduceLT, Nat.reduceAdd, Nat.reduceSub, ↓reduceIte, implies_true, reduceCtorEq, ne_eq, ↓shr_eq, IntKind.bits, Int.reduceToNat, Int.reducePow, dite_eq_ite, Value.oneCell', Nat.reduceBEq, Nat.reduceDiv, bnS, bnN, bnT, GK1, GK1f]
  refine LoopC.intro (α := Nat) (fun i => i ≤ s.length ∧ ∀ k, k < i → dig (byteAt s k)) (fun i => ⟨[(8, .i i), (7, .i s.length), (0, .str s)], [], 0⟩) (fun i => s.length - i) 0 ⟨Nat.zero_le _, fun k hk => by omega⟩ ?_ ?_
  · simp only [vmark, seqN, sameBox, boxJs, vquietR, vopsR, RetC, retW, cellR, undV, vgA, vbinN, vnn, isNilC, isIf, vconvH, vconvO, cvOk, frz1, frzE, jsOk, jsCo, rowsH, vgcH, vgH, vopsT, stepE, Kseq_app, vg_skip, vg_label, vg_seq, vg_region, vg_cond, vg_block, vg_exit, vg_ret, vg_loop, vcallF, vcallH, uls, HdelK, memN, noBox, ninL, keysH, jsAt, AdSub, adopt, noEl, isNil, effL, effO, vopsD, vquiet, vfstD, ldq, ldOk, vops, vfst, vone, vact, ug, addL, vbox, valloc, vstore, vbuild, arrF, vbuildSlice, vappend, vmake, zeroS, zeroE, vstrB, apC, nrm, nr1, nrL, keyL, neqs, diffs, V.app, V.len, vsrc, vdst, mkSl, mkBy, inOrd, placeAll, V.one, V.sto, V.csize, V.parts, V.cellsL, setMany, V.setB, V.setE, V.setO, V.noOwn, V.isOwn, vq, vcall, fzA, fz, fz1, fzL, fzN, rts, rt1, V.er, er1, er2, mixA, mixK, uargs, u1, R.add, vop, vbin, vint2, vstr2, vbool2, vnum, vun, vpick, vpick1, vbool, vconv, vnil, vfieldAddr, vindexAddr, vstEq, vindex, vload, vfield, aggD, vslice, bnd, uopt, vlen, vmin, vextract, Hpk, Hroot, refV, ownR, V.i, V.elems, V.cell, V.cut, V.exact, V.ex0, exL, V.cl, clL, V.sc, scL, scO, scH, V.ct, ct1, ct2, RetP, RetK, RetH, retL, retOne, Back, Veq, subH, obs, obsIf, En.get, En.put, En.ev, enOf, gcond, wantB, constV, exGet, subE, Sub, RV, RVL, NR, RO, subER, subHR, newLt, oldNe, oldOk, oldGe, notIn, ivN, lookN, SubR, Nm.root, Nat.reduceMul, Nat.reduceLeDiff, Nat.reduceEqDiff, Nat.reduceLT, Nat.reduceAdd, Nat.reduceSub, ↓reduceIte, implies_true, reduceCtorEq, ne_eq, ↓shr_eq, IntKind.bits, Int.reduceToNat, Int.reducePow, dite_eq_ite, Value.oneCell', Nat.reduceBEq, Nat.reduceDiv, bnS, bnN, bnT]
    rfl
  · rintro i ⟨h1, h2⟩
    simp only [vmark, seqN, sameBox, boxJs, vquietR, vopsR, RetC, retW, cellR, undV, vgA, vbinN, vnn, isNilC, isIf, vconvH, vconvO, cvOk, frz1, frzE, jsOk, jsCo, rowsH, vgcH, vgH, vopsT, stepE, Kseq_app, vg_skip, vg_label, vg_seq, vg_region, vg_cond, vg_block, vg_exit, vg_ret, vg_loop, vcallF, vcallH, uls, HdelK, memN, noBox, ninL, keysH, jsAt, AdSub, adopt, noEl, isNil, effL, effO, vopsD, vquiet, vfstD, ldq, ldOk, vops, vfst, vone, vact, ug, addL, vbox, valloc, vstore, vbuild, arrF, vbuildSlice, vappend, vmake, zeroS, zeroE, vstrB, apC, nrm, nr1, nrL, keyL, neqs, diffs, V.app, V.len, vsrc, vdst, mkSl, mkBy, inOrd, placeAll, V.one, V.sto, V.csize, V.parts, V.cellsL, setMany, V.setB, V.setE, V.setO, V.noOwn, V.isOwn, vq, vcall, fzA, fz, fz1, fzL, fzN, rts, rt1, V.er, er1, er2, mixA, mixK, uargs, u1, R.add, vop, vbin, vint2, vstr2, vbool2, vnum, vun, vpick, vpick1, vbool, vconv, vnil, vfieldAddr, vindexAddr, vstEq, vindex, vload, vfield, aggD, vslice, bnd, uopt, vlen, vmin, vextract, Hpk, Hroot, refV, ownR, V.i, V.elems, V.cell, V.cut, V.exact, V.ex0, exL, V.cl, clL, V.sc, scL, scO, scH, V.ct, ct1, ct2, RetP, RetK, RetH, retL, retOne, Back, Veq, subH, obs, obsIf, En.get, En.put, En.ev, enOf, gcond, wantB, constV, exGet, subE, Sub, RV, RVL, NR, RO, subER, subHR, newLt, oldNe, oldOk, oldGe, notIn, ivN, lookN, SubR, Nm.root, Nat.reduceMul, Nat.reduceLeDiff, Nat.reduceEqDiff, Nat.reduceLT, Nat.reduceAdd, Nat.reduceSub, ↓reduceIte, implies_true, reduceCtorEq, ne_eq, ↓shr_eq, IntKind.bits, Int.reduceToNat, Int.reducePow, dite_eq_ite, Value.oneCell', Nat.reduceBEq, Nat.reduceDiv, bnS, bnN, bnT, GK1, GK1f]
    refine ⟨fun hi => ?_, fun hi => ?_⟩
    · simp only [decide_eq_true_eq] at hi
      refine ⟨by omega, by omega, fun _ => by omega, fun _ => by omega, fun hb => ?_, fun hb => ?_⟩
      · simp only [Bool.or_eq_true, decide_eq_true_eq] at hb
        rw [numF_no (s := s) (i := i) (by omega) (by unfold dig; omega)]
      · simp only [Bool.or_eq_false_iff, decide_eq_false_iff_not] at hb
        refine ⟨by constructor <;> omega, Again.intro (i + 1) ⟨by omega, fun k hk => ?_⟩ (by omega) ?_⟩
        · rcases Nat.lt_or_ge k i with hl | hl
          · exact h2 k hl
          · obtain rfl : k = i := by omega
            unfold dig; omega
        · simp only [vmark, seqN, sameBox, boxJs, vquietR, vopsR, RetC, retW, cellR, undV, vgA, vbinN, vnn, isNilC, isIf, vconvH, vconvO, cvOk, frz1, frzE, jsOk, jsCo, rowsH, vgcH, vgH, vopsT, stepE, Kseq_app, vg_skip, vg_label, vg_seq, vg_region, vg_cond, vg_block, vg_exit, vg_ret, vg_loop, vcallF, vcallH, uls, HdelK, memN, noBox, ninL, keysH, jsAt, AdSub, adopt, noEl, isNil, effL, effO, vopsD, vquiet, vfstD, ldq, ldOk, vops, vfst, vone, vact, ug, addL, vbox, valloc, vstore, vbuild, arrF, vbuildSlice, vappend, vmake, zeroS, zeroE, vstrB, apC, nrm, nr1, nrL, keyL, neqs, diffs, V.app, V.len, vsrc, vdst, mkSl, mkBy, inOrd, placeAll, V.one, V.sto, V.csize, V.parts, V.cellsL, setMany, V.setB, V.setE, V.setO, V.noOwn, V.isOwn, vq, vcall, fzA, fz, fz1, fzL, fzN, rts, rt1, V.er, er1, er2, mixA, mixK, uargs, u1, R.add, vop, vbin, vint2, vstr2, vbool2, vnum, vun, vpick, vpick1, vbool, vconv, vnil, vfieldAddr, vindexAddr, vstEq, vindex, vload, vfield, aggD, vslice, bnd, uopt, vlen, vmin, vextract, Hpk, Hroot, refV, ownR, V.i, V.elems, V.cell, V.cut, V.exact, V.ex0, exL, V.cl, clL, V.sc, scL, scO, scH, V.ct, ct1, ct2, RetP, RetK, RetH, retL, retOne, Back, Veq, subH, obs, obsIf, En.get, En.put, En.ev, enOf, gcond, wantB, constV, exGet, subE, Sub, RV, RVL, NR, RO, subER, subHR, newLt, oldNe, oldOk, oldGe, notIn, ivN, lookN, SubR, Nm.root, Nat.reduceMul, Nat.reduceLeDiff, Nat.reduceEqDiff, Nat.reduceLT, Nat.reduceAdd, Nat.reduceSub, ↓reduceIte, implies_true, reduceCtorEq, ne_eq, ↓shr_eq, IntKind.bits, Int.reduceToNat, Int.reducePow, dite_eq_ite, Value.oneCell', Nat.reduceBEq, Nat.reduceDiv, bnS, bnN, bnT]
          simp
    · simp only [decide_eq_false_iff_not] at hi
      have := atoi_num hs fun k hk => h2 k (by omega)
      rw [this]
      exact ⟨hl, rfl, rfl⟩
end Go.Proofs.YtmafmdnmoccohaaGreatDoor
