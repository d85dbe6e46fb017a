/- Reading an element: the walk. -/
import Derived.Test.YtmafmdnmoccohaaGreatDoorDElem
namespace Go.Proofs.YtmafmdnmoccohaaGreatDoor
open Go.RowKit
set_option linter.unusedSimpArgs false
set_option maxRecDepth 100000

def elPre (l : List UInt8) (k r : Nat) (out : List Tlv) : List (Nat × Ob) := [(k, .box 69 (.st [.by l, .ro (.r r), .val (.int .i64 0), .val (.int .i64 0)])), (r, .row 29 (tloV out))]
def elPost (l : List UInt8) (k r : Nat) (e : ER) : List (Nat × Ob) := [(k, .box 69 (.st [.by l, .ro (.r r), .val (.int .i64 e.code), .val (.int .i64 e.place)])), (r, .row 29 (tloV e.out))]
def G2f : FuncId → List V → Option (List Prop × Bool × V) := fun f args =>
  if f = 42 then match args with
    | [.val (.int .i64 t)] => some ([], false, .bb (tagF t))
    | _ => none
  else if f = 43 then match args with
    | [.val (.int .i64 t), .by l] => some ([l.length ≤ 140737488355328], false, .bb (rightF t l))
    | _ => none
  else if f = 41 then match args with
    | [.by l, .val (.int .i64 p), .val (.int .i64 q)] => some ([0 ≤ p, 0 ≤ q, q ≤ (l.length : Int), l.length ≤ 140737488355328, p ≤ 140737488355328], false, .tu [.i (headF l p.toNat q.toNat).1, .i (headF l p.toNat q.toNat).2.1, .bb (headF l p.toNat q.toNat).2.2])
    | _ => none
  else none
/-- One deeper. -/
def G2h (d : Option Nat) : FuncId → List V → List (Nat × Ob) → Nat → Option CallH := fun f args h nx =>
  if f = 26 then match args with
    | [.op k 0, .val (.int .i64 p), .val (.int .i64 q), .val (.int .i64 o)] => match Hroot h k with
      | some (.box _ (.st [.by l, .ro (.r r), .val (.int .i64 _), .val (.int .i64 _)])) => match Hroot h r with
        | some (.row _ (.sq _ _ L)) => match d with
          | some d => some ⟨[0 ≤ p, p ≤ q, q ≤ (l.length : Int), l.length ≤ 65536, o = 32 - (d : Int), d ≤ 32, (unT L).length + (q.toNat - p.toNat) ≤ 65536, k < nx, r < nx, k ≠ r], [],
              elPre l k r (unT L), .i (elF l d p.toNat q.toNat (unT L)).ret, elPost l k nx (elF l d p.toNat q.toNat (unT L)), nx + 1⟩
          | none => none
        | _ => none
      | _ => none
    | _ => none
  else none
def G2 (J : Inv) (d : Option Nat) (b : Nat) : Sig := ⟨J, df, G2f, G2h d, b⟩
def ElOk (J : Inv) (d : Nat) : Prop := ∀ (l : List UInt8) (p q : Nat) (out : List Tlv) (k r nx : Nat), p ≤ q → q ≤ l.length → l.length ≤ 65536 → out.length + (q - p) ≤ 65536 → k < nx → r < nx → k ≠ r →
  FnH Tryz.prog J 26 [.op k 0, .i p, .i q, .i (32 - (d : Int))] (elPre l k r out) nx (.i (elF l d p q out).ret) (elPost l k nx (elF l d p q out)) (nx + 1)
theorem G2_ok (J : Inv) (d : Option Nat) (b : Nat) (hd : ∀ e, d = some e → ElOk J e) : SigOk Tryz.prog (G2 J d b) := by
  refine ⟨fun f args l fr r h hl => ?_, fun f args h nx c hc hl => ?_⟩
  · simp only [G2] at h
    unfold G2f at h
    split at h
    · rename_i hf; subst hf
      split at h
      · obtain ⟨rfl, rfl, rfl⟩ := some_tri h; exact tagged_fn J _
      · exact absurd h (by simp)
    · split at h
      · rename_i hf; subst hf
        split at h
        · obtain ⟨rfl, rfl, rfl⟩ := some_tri h; exact right_fn J _ _ (hl _ (List.mem_cons_self ..))
        · exact absurd h (by simp)
      · split at h
        · rename_i hf; subst hf
          split at h
          · rename_i b p q
            obtain ⟨rfl, rfl, rfl⟩ := some_tri h
            have h0 : (0 : Int) ≤ p := hl _ (by simp)
            have h1 : (0 : Int) ≤ q := hl _ (by simp)
            have h2 : q ≤ (b.length : Int) := hl _ (by simp)
            have h3 : b.length ≤ 140737488355328 := hl _ (by simp)
            have h4 : p ≤ 140737488355328 := hl _ (by simp)
            obtain ⟨p, rfl⟩ := Int.eq_ofNat_of_zero_le h0
            obtain ⟨q, rfl⟩ := Int.eq_ofNat_of_zero_le h1
            exact head_fn J b p q (by omega) h3 (by omega)
          · exact absurd h (by simp)
        · exact absurd h (by simp)
  · simp only [G2] at hc
    unfold G2h at hc
    split at hc
    · rename_i hf; subst hf
      split at hc
      · rename_i k p q o
        split at hc
        · rename_i ty l1 r c0 p0 hk
          split at hc
          · rename_i ty2 sz dd L hr
            split at hc
            · rename_i e
              simp only [Option.some.injEq] at hc
              subst hc
              have h0 : (0 : Int) ≤ p := hl _ (by simp)
              have h1 : p ≤ q := hl _ (by simp)
              have h2 : q ≤ (l1.length : Int) := hl _ (by simp)
              have h3 : l1.length ≤ 65536 := hl _ (by simp)
              have h4 : o = 32 - (e : Int) := hl _ (by simp)
              have h6 : (unT L).length + (q.toNat - p.toNat) ≤ 65536 := hl _ (by simp)
              have h7 : k < nx := hl _ (by simp)
              have h8 : r < nx := hl _ (by simp)
              have h9 : k ≠ r := hl _ (by simp)
              subst h4
              obtain ⟨p, rfl⟩ := Int.eq_ofNat_of_zero_le h0
              obtain ⟨q, rfl⟩ := Int.eq_ofNat_of_zero_le (show (0 : Int) ≤ q by omega)
              exact hd e rfl l1 p q (unT L) k r nx (by omega) (by omega) h3 h6 h7 h8 h9
            · exact absurd hc (by simp)
          · exact absurd hc (by simp)
        · exact absurd hc (by simp)
      · exact absurd hc (by simp)
    · exact absurd hc (by simp)
theorem and32 (t : Int) (h0 : 0 ≤ t) (h1 : t ≤ 255) : (!(bt .and .i64 t 32 == 0)) = innerF t := by
  obtain ⟨a, rfl⟩ := Int.eq_ofNat_of_zero_le h0
  have h := i64_and_nat a 32 (by omega) (by omega)
  rw [show ((32 : Nat) : Int) = 32 from rfl] at h
  rw [h]
  have key : ∀ b, b < 256 → (!(((b &&& 32 : Nat) : Int) == 0)) = innerF (b : Int) := by decide +kernel
  exact key a (by omega)
theorem badF_eq {l : List UInt8} {p q : Nat} (h : (headF l p q).2.2 = true) : badF l p q = (!tagF (byteAt l p) || (!innerF (byteAt l p) && !rightF (byteAt l p) (cutF l p q))) ∧ tagAt l p q = byteAt l p := by
  have : tagAt l p q = byteAt l p := by unfold tagAt; rw [if_pos h]
  refine ⟨?_, this⟩
  unfold badF
  rw [this, h]; simp
theorem badF_no {l : List UInt8} {p q : Nat} (h : (headF l p q).2.2 = false) : badF l p q = true := by unfold badF; rw [h]; simp
def recOf (l : List UInt8) : Option Nat → Option (Nat → Nat → List Tlv → ER)
  | none => none
  | some e => some (elF l e)
/-- Reading an element. -/
theorem element_fn (J : Inv) (D : Nat) (dd : Option Nat) (hD : (dd = none ∧ D = 0) ∨ ∃ e, dd = some e ∧ D = e + 1 ∧ ElOk J e) (hD32 : D ≤ 32) : ElOk J D := by
  intro l p q out k r nx hpq hq hl hout hk hr hkr
  have n1 : ∀ j, (nx + j = k) = False := fun j => by simp; omega
  have n2 : ∀ j, (nx + j = r) = False := fun j => by simp; omega
  have n3 : (nx = k) = False := by simp; omega
  have n4 : (nx = r) = False := by simp; omega
  have n5 : (k = r) = False := by simp; exact hkr
  have n6 : (r = k) = False := by simp; exact fun e => hkr e.symm
  have n7 : ∀ j, (nx + j < nx) = False := fun j => by simp
  have n8 : (nx < nx) = False := by simp
  have n9 : ∀ j, (k = nx + j) = False := fun j => by simp; omega
  have n10 : (k = nx) = False := by simp; omega
  have n11 : ∀ j, (r = nx + j) = False := fun j => by simp; omega
  have n12 : (r = nx) = False := by simp; omega
  have hG : SigOk Tryz.prog (G2 J dd nx) := G2_ok J dd nx fun e he => by
    rcases hD with ⟨h, _⟩ | ⟨e', h1, h2, h3⟩
    · rw [h] at he; cases he
    · rw [h1] at he
      obtain rfl : e' = e := by simpa using he
      exact h3
  have b0 := byteAt_lo l p
  have b1 := byteAt_hi l p
  have hE : elF l D = elB l (recOf l dd) := by
    rcases hD with ⟨rfl, rfl⟩ | ⟨e', rfl, rfl, _⟩ <;> rfl
  refine fnH_intro Tryz.func26 rfl (by kernel_rfl) (Nat.le_of_ble_eq_true (by kernel_rfl)) (by kernel_rfl) (by kernel_rfl) hG rfl ?_
  unfold Tryz.f26
  simp only [vmark, seqN, sameBox, boxJs, vquietR, vopsR, RetC, retW, cellR, undV, vgA, vbinN, vnn, isNilC, isIf, vconvH, vconvO, cvOk, frz1, frzE, jsOk, jsCo, rowsH, vgcH, vgH, vopsT, stepE, Kseq_app, vg_skip, vg_label, vg_seq, vg_region, vg_cond, vg_block, vg_exit, vg_ret, vg_loop, vcallF, vcallH, uls, HdelK, memN, noBox, ninL, keysH, jsAt, AdSub, adopt, noEl, isNil, effL, effO, vopsD, vquiet, vfstD, ldq, ldOk, vops, vfst, vone, vact, ug, addL, vbox, valloc, vstore, vbuild, arrF, vbuildSlice, vappend, vmake, zeroS, zeroE, vstrB, apC, nrm, nr1, nrL, keyL, neqs, diffs, V.app, V.len, vsrc, vdst, mkSl, mkBy, inOrd, placeAll, V.one, V.sto, V.csize, V.parts, V.cellsL, setMany, V.setB, V.setE, V.setO, V.noOwn, V.isOwn, vq, vcall, fzA, fz, fz1, fzL, fzN, rts, rt1, V.er, er1, er2, mixA, mixK, uargs, u1, R.add, vop, vbin, vint2, vstr2, vbool2, vnum, vun, vpick, vpick1, vbool, vconv, vnil, vfieldAddr, vindexAddr, vstEq, vindex, vload, vfield, aggD, vslice, bnd, uopt, vlen, vmin, vextract, Hpk, Hroot, refV, ownR, V.i, V.elems, V.cell, V.cut, V.exact, V.ex0, exL, V.cl, clL, V.sc, scL, scO, scH, V.ct, ct1, ct2, RetP, RetK, RetH, retL, retOne, Back, Veq, subH, obs, obsIf, En.get, En.put, En.ev, enOf, gcond, wantB, constV, exGet, subE, Sub, RV, RVL, NR, RO, subER, subHR, newLt, oldNe, oldOk, oldGe, notIn, ivN, lookN, SubR, Nm.root, Nat.reduceMul, Nat.reduceLeDiff, Nat.reduceEqDiff, Nat.reduceLT, Nat.reduceAdd, Nat.reduceSub, ↓reduceIte, implies_true, reduceCtorEq, ne_eq, ↓shr_eq, IntKind.bits, Int.reduceToNat, Int.reducePow, dite_eq_ite, Value.oneCell', Nat.reduceBEq, Nat.reduceDiv, bnS, bnN, bnT, G2, G2f, G2h, elPre, tloV, tlvOD, unT_tlo, tlo_len, tlo_get, tlo_app, tlo_set, tlo_ct, tlo_sc, n1, n2, n3, n4, n5, n6, and32 _ b0 (by omega)]
  rw [hE]
  have bad : badF l p q = true → ∀ e8 : En, e8.get 8 = some (.val (.int .i64 0)) → RenC nx (RetH [ResultVar.tmp 8] (V.val (Value.int IntKind.i64 ↑(elB l (recOf l dd) p q out).ret)) (elPost l k nx (elB l (recOf l dd) p q out)) (nx + 1))
      ⟨e8, (k, Ob.box 69 (.st [.by l, .ro (.r r), .val (.int .i64 80), .val (.int .i64 p)])) :: (k, Ob.box 69 (.st [.by l, .ro (.r r), .val (.int .i64 80), .val (.int .i64 0)])) :: elPre l k r out, nx⟩ := by
    intro hbad e8 he8
    have hE2 : ∀ rec, elB l rec p q out = ⟨out, 80, p, 0⟩ := fun rec => by unfold elB; rw [if_pos hbad]
    rw [hE2]
    refine RenC.intro [(nx, r)] ⟨[(8, .val (.int .i64 0))], elPost l k nx ⟨out, 80, p, 0⟩, nx + 1⟩ ?_ ?_
    · simp only [vmark, seqN, sameBox, boxJs, vquietR, vopsR, RetC, retW, cellR, undV, vgA, vbinN, vnn, isNilC, isIf, vconvH, vconvO, cvOk, frz1, frzE, jsOk, jsCo, rowsH, vgcH, vgH, vopsT, stepE, Kseq_app, vg_skip, vg_label, vg_seq, vg_region, vg_cond, vg_block, vg_exit, vg_ret, vg_loop, vcallF, vcallH, uls, HdelK, memN, noBox, ninL, keysH, jsAt, AdSub, adopt, noEl, isNil, effL, effO, vopsD, vquiet, vfstD, ldq, ldOk, vops, vfst, vone, vact, ug, addL, vbox, valloc, vstore, vbuild, arrF, vbuildSlice, vappend, vmake, zeroS, zeroE, vstrB, apC, nrm, nr1, nrL, keyL, neqs, diffs, V.app, V.len, vsrc, vdst, mkSl, mkBy, inOrd, placeAll, V.one, V.sto, V.csize, V.parts, V.cellsL, setMany, V.setB, V.setE, V.setO, V.noOwn, V.isOwn, vq, vcall, fzA, fz, fz1, fzL, fzN, rts, rt1, V.er, er1, er2, mixA, mixK, uargs, u1, R.add, vop, vbin, vint2, vstr2, vbool2, vnum, vun, vpick, vpick1, vbool, vconv, vnil, vfieldAddr, vindexAddr, vstEq, vindex, vload, vfield, aggD, vslice, bnd, uopt, vlen, vmin, vextract, Hpk, Hroot, refV, ownR, V.i, V.elems, V.cell, V.cut, V.exact, V.ex0, exL, V.cl, clL, V.sc, scL, scO, scH, V.ct, ct1, ct2, RetP, RetK, RetH, retL, retOne, Back, Veq, subH, obs, obsIf, En.get, En.put, En.ev, enOf, gcond, wantB, constV, exGet, subE, Sub, RV, RVL, NR, RO, subER, subHR, newLt, oldNe, oldOk, oldGe, notIn, ivN, lookN, SubR, Nm.root, Nat.reduceMul, Nat.reduceLeDiff, Nat.reduceEqDiff, Nat.reduceLT, Nat.reduceAdd, Nat.reduceSub, ↓reduceIte, implies_true, reduceCtorEq, ne_eq, ↓shr_eq, IntKind.bits, Int.reduceToNat, Int.reducePow, dite_eq_ite, Value.oneCell', Nat.reduceBEq, Nat.reduceDiv, bnS, bnN, bnT, he8, elPre, elPost, tloV, tlvOD, tlo_ct, n1, n2, n3, n4, n5, n6, n7, n8, n9, n10, n11, n12, hk, hr]
      refine ⟨by omega, by omega, by simp⟩
    · simp only [vmark, seqN, sameBox, boxJs, vquietR, vopsR, RetC, retW, cellR, undV, vgA, vbinN, vnn, isNilC, isIf, vconvH, vconvO, cvOk, frz1, frzE, jsOk, jsCo, rowsH, vgcH, vgH, vopsT, stepE, Kseq_app, vg_skip, vg_label, vg_seq, vg_region, vg_cond, vg_block, vg_exit, vg_ret, vg_loop, vcallF, vcallH, uls, HdelK, memN, noBox, ninL, keysH, jsAt, AdSub, adopt, noEl, isNil, effL, effO, vopsD, vquiet, vfstD, ldq, ldOk, vops, vfst, vone, vact, ug, addL, vbox, valloc, vstore, vbuild, arrF, vbuildSlice, vappend, vmake, zeroS, zeroE, vstrB, apC, nrm, nr1, nrL, keyL, neqs, diffs, V.app, V.len, vsrc, vdst, mkSl, mkBy, inOrd, placeAll, V.one, V.sto, V.csize, V.parts, V.cellsL, setMany, V.setB, V.setE, V.setO, V.noOwn, V.isOwn, vq, vcall, fzA, fz, fz1, fzL, fzN, rts, rt1, V.er, er1, er2, mixA, mixK, uargs, u1, R.add, vop, vbin, vint2, vstr2, vbool2, vnum, vun, vpick, vpick1, vbool, vconv, vnil, vfieldAddr, vindexAddr, vstEq, vindex, vload, vfield, aggD, vslice, bnd, uopt, vlen, vmin, vextract, Hpk, Hroot, refV, ownR, V.i, V.elems, V.cell, V.cut, V.exact, V.ex0, exL, V.cl, clL, V.sc, scL, scO, scH, V.ct, ct1, ct2, RetP, RetK, RetH, retL, retOne, Back, Veq, subH, obs, obsIf, En.get, En.put, En.ev, enOf, gcond, wantB, constV, exGet, subE, Sub, RV, RVL, NR, RO, subER, subHR, newLt, oldNe, oldOk, oldGe, notIn, ivN, lookN, SubR, Nm.root, Nat.reduceMul, Nat.reduceLeDiff, Nat.reduceEqDiff, Nat.reduceLT, Nat.reduceAdd, Nat.reduceSub, ↓reduceIte, implies_true, reduceCtorEq, ne_eq, ↓shr_eq, IntKind.bits, Int.reduceToNat, Int.reducePow, dite_eq_ite, Value.oneCell', Nat.reduceBEq, Nat.reduceDiv, bnS, bnN, bnT, elPost, tloV, tlvOD, n1, n2, n3, n4, n5, n6, n7, n8, n9, n10, n11, n12, hk, hr]
      simp
  refine ⟨by omega, by omega, by omega, by omega, by omega, fun hh => ?_, fun hh => ?_⟩
  · obtain ⟨hb, ht⟩ := badF_eq hh
    obtain ⟨a1, a2, a3⟩ := headF_ok hh
    have hcutl : (cutF l p q).length ≤ 65536 := by unfold cutF; simp; omega
    rw [hh]
    change _ ∧ _ ∧ _ ∧ _ ∧ _ ∧ (_ → (cutF l p q).length ≤ _) ∧ _ ∧ Br (_ || _ && !rightF _ (cutF l p q)) _ _
    refine ⟨by omega, by omega, fun _ => by omega, fun _ => by omega, fun _ => by omega, fun _ => by omega, fun h1 h2 => by simp only [Bool.not_true, Bool.false_or] at h1 ⊢; rw [h1, h2]; rfl, fun hx => ?_, fun hx => ?_⟩
    · exact bad (by rw [hb]; simpa using hx) _ rfl
    · have hbad : badF l p q = false := by rw [hb]; simpa using hx
      refine ⟨fun hy => ?_, fun hy => ?_⟩
      · have hin : innerF (byteAt l p) = true := by simp only [Bool.and_eq_true] at hy; exact hy.1
        have hD0 : dd = none := by
          rcases hD with ⟨h, _⟩ | ⟨e', h1, h2, h3⟩
          · exact h
          · simp only [Bool.and_eq_true, beq_iff_eq] at hy; omega
        have hE2 : elB l (recOf l dd) p q out = ⟨out, 11, p, 0⟩ := by
          unfold elB; rw [if_neg (by simp [hbad]), if_neg (by rw [ht]; simp [hin]), hD0]; rfl
        rw [hE2]
        refine RenC.intro [(nx, r)] ⟨[(8, .val (.int .i64 0))], elPost l k nx ⟨out, 11, p, 0⟩, nx + 1⟩ ?_ ?_
        · simp only [vmark, seqN, sameBox, boxJs, vquietR, vopsR, RetC, retW, cellR, undV, vgA, vbinN, vnn, isNilC, isIf, vconvH, vconvO, cvOk, frz1, frzE, jsOk, jsCo, rowsH, vgcH, vgH, vopsT, stepE, Kseq_app, vg_skip, vg_label, vg_seq, vg_region, vg_cond, vg_block, vg_exit, vg_ret, vg_loop, vcallF, vcallH, uls, HdelK, memN, noBox, ninL, keysH, jsAt, AdSub, adopt, noEl, isNil, effL, effO, vopsD, vquiet, vfstD, ldq, ldOk, vops, vfst, vone, vact, ug, addL, vbox, valloc, vstore, vbuild, arrF, vbuildSlice, vappend, vmake, zeroS, zeroE, vstrB, apC, nrm, nr1, nrL, keyL, neqs, diffs, V.app, V.len, vsrc, vdst, mkSl, mkBy, inOrd, placeAll, V.one, V.sto, V.csize, V.parts, V.cellsL, setMany, V.setB, V.setE, V.setO, V.noOwn, V.isOwn, vq, vcall, fzA, fz, fz1, fzL, fzN, rts, rt1, V.er, er1, er2, mixA, mixK, uargs, u1, R.add, vop, vbin, vint2, vstr2, vbool2, vnum, vun, vpick, vpick1, vbool, vconv, vnil, vfieldAddr, vindexAddr, vstEq, vindex, vload, vfield, aggD, vslice, bnd, uopt, vlen, vmin, vextract, Hpk, Hroot, refV, ownR, V.i, V.elems, V.cell, V.cut, V.exact, V.ex0, exL, V.cl, clL, V.sc, scL, scO, scH, V.ct, ct1, ct2, RetP, RetK, RetH, retL, retOne, Back, Veq, subH, obs, obsIf, En.get, En.put, En.ev, enOf, gcond, wantB, constV, exGet, subE, Sub, RV, RVL, NR, RO, subER, subHR, newLt, oldNe, oldOk, oldGe, notIn, ivN, lookN, SubR, Nm.root, Nat.reduceMul, Nat.reduceLeDiff, Nat.reduceEqDiff, Nat.reduceLT, Nat.reduceAdd, Nat.reduceSub, ↓reduceIte, implies_true, reduceCtorEq, ne_eq, ↓shr_eq, IntKind.bits, Int.reduceToNat, Int.reducePow, dite_eq_ite, Value.oneCell', Nat.reduceBEq, Nat.reduceDiv, bnS, bnN, bnT, elPost, tloV, tlvOD, tlo_ct, n1, n2, n3, n4, n5, n6, n7, n8, n9, n10, n11, n12, hk, hr]
          refine ⟨by omega, by omega, by simp⟩
        · simp only [vmark, seqN, sameBox, boxJs, vquietR, vopsR, RetC, retW, cellR, undV, vgA, vbinN, vnn, isNilC, isIf, vconvH, vconvO, cvOk, frz1, frzE, jsOk, jsCo, rowsH, vgcH, vgH, vopsT, stepE, Kseq_app, vg_skip, vg_label, vg_seq, vg_region, vg_cond, vg_block, vg_exit, vg_ret, vg_loop, vcallF, vcallH, uls, HdelK, memN, noBox, ninL, keysH, jsAt, AdSub, adopt, noEl, isNil, effL, effO, vopsD, vquiet, vfstD, ldq, ldOk, vops, vfst, vone, vact, ug, addL, vbox, valloc, vstore, vbuild, arrF, vbuildSlice, vappend, vmake, zeroS, zeroE, vstrB, apC, nrm, nr1, nrL, keyL, neqs, diffs, V.app, V.len, vsrc, vdst, mkSl, mkBy, inOrd, placeAll, V.one, V.sto, V.csize, V.parts, V.cellsL, setMany, V.setB, V.setE, V.setO, V.noOwn, V.isOwn, vq, vcall, fzA, fz, fz1, fzL, fzN, rts, rt1, V.er, er1, er2, mixA, mixK, uargs, u1, R.add, vop, vbin, vint2, vstr2, vbool2, vnum, vun, vpick, vpick1, vbool, vconv, vnil, vfieldAddr, vindexAddr, vstEq, vindex, vload, vfield, aggD, vslice, bnd, uopt, vlen, vmin, vextract, Hpk, Hroot, refV, ownR, V.i, V.elems, V.cell, V.cut, V.exact, V.ex0, exL, V.cl, clL, V.sc, scL, scO, scH, V.ct, ct1, ct2, RetP, RetK, RetH, retL, retOne, Back, Veq, subH, obs, obsIf, En.get, En.put, En.ev, enOf, gcond, wantB, constV, exGet, subE, Sub, RV, RVL, NR, RO, subER, subHR, newLt, oldNe, oldOk, oldGe, notIn, ivN, lookN, SubR, Nm.root, Nat.reduceMul, Nat.reduceLeDiff, Nat.reduceEqDiff, Nat.reduceLT, Nat.reduceAdd, Nat.reduceSub, ↓reduceIte, implies_true, reduceCtorEq, ne_eq, ↓shr_eq, IntKind.bits, Int.reduceToNat, Int.reducePow, dite_eq_ite, Value.oneCell', Nat.reduceBEq, Nat.reduceDiv, bnS, bnN, bnT, elPost, tloV, tlvOD, n1, n2, n3, n4, n5, n6, n7, n8, n9, n10, n11, n12, hk, hr]
          simp
      · refine ⟨fun hz => ?_, fun hz => ?_⟩
        · have hin : innerF (byteAt l p) = false := by simpa using hz
          refine DrawC.sch [(0, some []), (1, some []), (2, some []), (3, some []), (4, some []), (5, some []), (6, some []), (7, some []), (8, some []), (9, some []), (10, some []), (11, some []), (12, some []), (13, none), (14, none), (15, none), (16, none), (17, some []), (18, some []), (19, none)] [(19, [1])] (by kernel_rfl) ?_
          simp only [vmark, seqN, sameBox, boxJs, vquietR, vopsR, RetC, retW, cellR, undV, vgA, vbinN, vnn, isNilC, isIf, vconvH, vconvO, cvOk, frz1, frzE, jsOk, jsCo, rowsH, vgcH, vgH, vopsT, stepE, Kseq_app, vg_skip, vg_label, vg_seq, vg_region, vg_cond, vg_block, vg_exit, vg_ret, vg_loop, vcallF, vcallH, uls, HdelK, memN, noBox, ninL, keysH, jsAt, AdSub, adopt, noEl, isNil, effL, effO, vopsD, vquiet, vfstD, ldq, ldOk, vops, vfst, vone, vact, ug, addL, vbox, valloc, vstore, vbuild, arrF, vbuildSlice, vappend, vmake, zeroS, zeroE, vstrB, apC, nrm, nr1, nrL, keyL, neqs, diffs, V.app, V.len, vsrc, vdst, mkSl, mkBy, inOrd, placeAll, V.one, V.sto, V.csize, V.parts, V.cellsL, setMany, V.setB, V.setE, V.setO, V.noOwn, V.isOwn, vq, vcall, fzA, fz, fz1, fzL, fzN, rts, rt1, V.er, er1, er2, mixA, mixK, uargs, u1, R.add, vop, vbin, vint2, vstr2, vbool2, vnum, vun, vpick, vpick1, vbool, vconv, vnil, vfieldAddr, vindexAddr, vstEq, vindex, vload, vfield, aggD, vslice, bnd, uopt, vlen, vmin, vextract, Hpk, Hroot, refV, ownR, V.i, V.elems, V.cell, V.cut, V.exact, V.ex0, exL, V.cl, clL, V.sc, scL, scO, scH, V.ct, ct1, ct2, RetP, RetK, RetH, retL, retOne, Back, Veq, subH, obs, obsIf, En.get, En.put, En.ev, enOf, gcond, wantB, constV, exGet, subE, Sub, RV, RVL, NR, RO, subER, subHR, newLt, oldNe, oldOk, oldGe, notIn, ivN, lookN, SubR, Nm.root, Nat.reduceMul, Nat.reduceLeDiff, Nat.reduceEqDiff, Nat.reduceLT, Nat.reduceAdd, Nat.reduceSub, ↓reduceIte, implies_true, reduceCtorEq, ne_eq, ↓shr_eq, IntKind.bits, Int.reduceToNat, Int.reducePow, dite_eq_ite, Value.oneCell', Nat.reduceBEq, Nat.reduceDiv, bnS, bnN, bnT, G2, G2f, G2h, elPre, tloV, tlvOD, tlvD, df, unT_tlo, tlo_len, tlo_get, tlo_app, tlo_set, tlo_ct, tlo_sc, n1, n2, n3, n4, n5, n6, n9, n10, n11, n12]
          have hE2 : elB l (recOf l dd) p q out = ⟨out ++ [⟨byteAt l p, cutF l p q, 0⟩], 0, 0, (headF l p q).2.1⟩ := by
            unfold elB; rw [if_neg (by simp [hbad]), if_pos (by rw [ht]; exact hin), ht]
          rw [hE2]
          change _ ∧ _ ∧ _ ∧ ((cutF l p q).length : Int) * _ ≤ _ ∧ _ ∧ _
          refine ⟨by omega, by omega, by omega, by omega, by simp; omega, ?_⟩
          refine RenC.intro [(nx, nx + 2)] ⟨[(8, .val (.int .i64 (headF l p q).2.1))], elPost l k nx ⟨out ++ [⟨byteAt l p, cutF l p q, 0⟩], 0, 0, (headF l p q).2.1⟩, nx + 1⟩ ?_ ?_
          · simp only [vmark, seqN, sameBox, boxJs, vquietR, vopsR, RetC, retW, cellR, undV, vgA, vbinN, vnn, isNilC, isIf, vconvH, vconvO, cvOk, frz1, frzE, jsOk, jsCo, rowsH, vgcH, vgH, vopsT, stepE, Kseq_app, vg_skip, vg_label, vg_seq, vg_region, vg_cond, vg_block, vg_exit, vg_ret, vg_loop, vcallF, vcallH, uls, HdelK, memN, noBox, ninL, keysH, jsAt, AdSub, adopt, noEl, isNil, effL, effO, vopsD, vquiet, vfstD, ldq, ldOk, vops, vfst, vone, vact, ug, addL, vbox, valloc, vstore, vbuild, arrF, vbuildSlice, vappend, vmake, zeroS, zeroE, vstrB, apC, nrm, nr1, nrL, keyL, neqs, diffs, V.app, V.len, vsrc, vdst, mkSl, mkBy, inOrd, placeAll, V.one, V.sto, V.csize, V.parts, V.cellsL, setMany, V.setB, V.setE, V.setO, V.noOwn, V.isOwn, vq, vcall, fzA, fz, fz1, fzL, fzN, rts, rt1, V.er, er1, er2, mixA, mixK, uargs, u1, R.add, vop, vbin, vint2, vstr2, vbool2, vnum, vun, vpick, vpick1, vbool, vconv, vnil, vfieldAddr, vindexAddr, vstEq, vindex, vload, vfield, aggD, vslice, bnd, uopt, vlen, vmin, vextract, Hpk, Hroot, refV, ownR, V.i, V.elems, V.cell, V.cut, V.exact, V.ex0, exL, V.cl, clL, V.sc, scL, scO, scH, V.ct, ct1, ct2, RetP, RetK, RetH, retL, retOne, Back, Veq, subH, obs, obsIf, En.get, En.put, En.ev, enOf, gcond, wantB, constV, exGet, subE, Sub, RV, RVL, NR, RO, subER, subHR, newLt, oldNe, oldOk, oldGe, notIn, ivN, lookN, SubR, Nm.root, Nat.reduceMul, Nat.reduceLeDiff, Nat.reduceEqDiff, Nat.reduceLT, Nat.reduceAdd, Nat.reduceSub, ↓reduceIte, implies_true, reduceCtorEq, ne_eq, ↓shr_eq, IntKind.bits, Int.reduceToNat, Int.reducePow, dite_eq_ite, Value.oneCell', Nat.reduceBEq, Nat.reduceDiv, bnS, bnN, bnT, elPost, cutF, tloV, tlvOD, tlo_ct, n1, n2, n3, n4, n5, n6, n7, n8, n9, n10, n11, n12, hk, hr]
            refine ⟨by simp, by omega, by omega, by simp⟩
          · simp only [vmark, seqN, sameBox, boxJs, vquietR, vopsR, RetC, retW, cellR, undV, vgA, vbinN, vnn, isNilC, isIf, vconvH, vconvO, cvOk, frz1, frzE, jsOk, jsCo, rowsH, vgcH, vgH, vopsT, stepE, Kseq_app, vg_skip, vg_label, vg_seq, vg_region, vg_cond, vg_block, vg_exit, vg_ret, vg_loop, vcallF, vcallH, uls, HdelK, memN, noBox, ninL, keysH, jsAt, AdSub, adopt, noEl, isNil, effL, effO, vopsD, vquiet, vfstD, ldq, ldOk, vops, vfst, vone, vact, ug, addL, vbox, valloc, vstore, vbuild, arrF, vbuildSlice, vappend, vmake, zeroS, zeroE, vstrB, apC, nrm, nr1, nrL, keyL, neqs, diffs, V.app, V.len, vsrc, vdst, mkSl, mkBy, inOrd, placeAll, V.one, V.sto, V.csize, V.parts, V.cellsL, setMany, V.setB, V.setE, V.setO, V.noOwn, V.isOwn, vq, vcall, fzA, fz, fz1, fzL, fzN, rts, rt1, V.er, er1, er2, mixA, mixK, uargs, u1, R.add, vop, vbin, vint2, vstr2, vbool2, vnum, vun, vpick, vpick1, vbool, vconv, vnil, vfieldAddr, vindexAddr, vstEq, vindex, vload, vfield, aggD, vslice, bnd, uopt, vlen, vmin, vextract, Hpk, Hroot, refV, ownR, V.i, V.elems, V.cell, V.cut, V.exact, V.ex0, exL, V.cl, clL, V.sc, scL, scO, scH, V.ct, ct1, ct2, RetP, RetK, RetH, retL, retOne, Back, Veq, subH, obs, obsIf, En.get, En.put, En.ev, enOf, gcond, wantB, constV, exGet, subE, Sub, RV, RVL, NR, RO, subER, subHR, newLt, oldNe, oldOk, oldGe, notIn, ivN, lookN, SubR, Nm.root, Nat.reduceMul, Nat.reduceLeDiff, Nat.reduceEqDiff, Nat.reduceLT, Nat.reduceAdd, Nat.reduceSub, ↓reduceIte, implies_true, reduceCtorEq, ne_eq, ↓shr_eq, IntKind.bits, Int.reduceToNat, Int.reducePow, dite_eq_ite, Value.oneCell', Nat.reduceBEq, Nat.reduceDiv, bnS, bnN, bnT, elPost, tloV, tlvOD, n1, n2, n3, n4, n5, n6, n7, n8, n9, n10, n11, n12, hk, hr]
            simp
        · have hin : innerF (byteAt l p) = true := by simpa using hz
          obtain ⟨e, rfl, rfl, hrec⟩ : ∃ e, dd = some e ∧ D = e + 1 ∧ ElOk J e := by
            rcases hD with ⟨h, rfl⟩ | h
            · rw [hin] at hy; simp at hy
            · exact h
          have hE2 : elB l (recOf l (some e)) p q out = kdF (elF l e) out.length (headF l p q).2.1 ((headF l p q).2.1 - (headF l p q).1 + 1) (headF l p q).1 (out ++ [⟨byteAt l p, [], 0⟩]) := by
            unfold elB; rw [if_neg (by simp [hbad]), if_neg (by rw [ht]; simp [hin]), ht]; rfl
          rw [hE2]
          generalize hto : (headF l p q).2.1 = to at *
          generalize hfr : (headF l p q).1 = fr at *
          generalize hfin : kdF (elF l e) out.length to (to - fr + 1) fr (out ++ [⟨byteAt l p, [], 0⟩]) = E at *
          refine ⟨by simp; omega, by omega, ?_⟩
          refine LoopC.intro (α := Nat × List Tlv) (fun y => y.1 ≤ to ∧ fr ≤ y.1 ∧ out.length < y.2.length ∧ y.2.length + (to - y.1) ≤ 65536 ∧ (∃ x m, y.2 = out ++ x :: m ∧ 0 ≤ x.kids ∧ x.kids ≤ ((y.1 - fr : Nat) : Int)) ∧ ∃ n, to - y.1 < n ∧ kdF (elF l e) out.length to n y.1 y.2 = E)
            (fun y => ⟨[(0, .op k 0), (9, .i y.1), (10, .i to), (14, .i out.length), (3, .i (32 - ((e + 1 : Nat) : Int)))], [(k, .box 69 (.st [.by l, .ro (.r (nx + 1)), .val (.int .i64 0), .val (.int .i64 0)])), (nx + 1, .row 29 (tloV y.2))], nx + 2⟩)
            (fun y => to - y.1) (fr, out ++ [⟨byteAt l p, [], 0⟩]) ⟨by simp only; omega, by simp only; omega, by simp, by simp; omega, ⟨_, [], rfl, by simp, by simp⟩, to - fr + 1, by simp only; omega, hfin⟩ ?_ ?_
          · simp only [vmark, seqN, sameBox, boxJs, vquietR, vopsR, RetC, retW, cellR, undV, vgA, vbinN, vnn, isNilC, isIf, vconvH, vconvO, cvOk, frz1, frzE, jsOk, jsCo, rowsH, vgcH, vgH, vopsT, stepE, Kseq_app, vg_skip, vg_label, vg_seq, vg_region, vg_cond, vg_block, vg_exit, vg_ret, vg_loop, vcallF, vcallH, uls, HdelK, memN, noBox, ninL, keysH, jsAt, AdSub, adopt, noEl, isNil, effL, effO, vopsD, vquiet, vfstD, ldq, ldOk, vops, vfst, vone, vact, ug, addL, vbox, valloc, vstore, vbuild, arrF, vbuildSlice, vappend, vmake, zeroS, zeroE, vstrB, apC, nrm, nr1, nrL, keyL, neqs, diffs, V.app, V.len, vsrc, vdst, mkSl, mkBy, inOrd, placeAll, V.one, V.sto, V.csize, V.parts, V.cellsL, setMany, V.setB, V.setE, V.setO, V.noOwn, V.isOwn, vq, vcall, fzA, fz, fz1, fzL, fzN, rts, rt1, V.er, er1, er2, mixA, mixK, uargs, u1, R.add, vop, vbin, vint2, vstr2, vbool2, vnum, vun, vpick, vpick1, vbool, vconv, vnil, vfieldAddr, vindexAddr, vstEq, vindex, vload, vfield, aggD, vslice, bnd, uopt, vlen, vmin, vextract, Hpk, Hroot, refV, ownR, V.i, V.elems, V.cell, V.cut, V.exact, V.ex0, exL, V.cl, clL, V.sc, scL, scO, scH, V.ct, ct1, ct2, RetP, RetK, RetH, retL, retOne, Back, Veq, subH, obs, obsIf, En.get, En.put, En.ev, enOf, gcond, wantB, constV, exGet, subE, Sub, RV, RVL, NR, RO, subER, subHR, newLt, oldNe, oldOk, oldGe, notIn, ivN, lookN, SubR, Nm.root, Nat.reduceMul, Nat.reduceLeDiff, Nat.reduceEqDiff, Nat.reduceLT, Nat.reduceAdd, Nat.reduceSub, ↓reduceIte, implies_true, reduceCtorEq, ne_eq, ↓shr_eq, IntKind.bits, Int.reduceToNat, Int.reducePow, dite_eq_ite, Value.oneCell', Nat.reduceBEq, Nat.reduceDiv, bnS, bnN, bnT, tloV, tlvOD, n1, n2, n3, n4, n5, n6, n9, n10, n11, n12]
            exact Nat.le_refl _
          · rintro ⟨p1, o1⟩ ⟨g1, g2, g3, g4, ⟨x, m, g7, g8, g9⟩, n, g5, g6⟩
            simp only at g1 g2 g3 g4 g5 g6 g7 g8 g9
            simp only [vmark, seqN, sameBox, boxJs, vquietR, vopsR, RetC, retW, cellR, undV, vgA, vbinN, vnn, isNilC, isIf, vconvH, vconvO, cvOk, frz1, frzE, jsOk, jsCo, rowsH, vgcH, vgH, vopsT, stepE, Kseq_app, vg_skip, vg_label, vg_seq, vg_region, vg_cond, vg_block, vg_exit, vg_ret, vg_loop, vcallF, vcallH, uls, HdelK, memN, noBox, ninL, keysH, jsAt, AdSub, adopt, noEl, isNil, effL, effO, vopsD, vquiet, vfstD, ldq, ldOk, vops, vfst, vone, vact, ug, addL, vbox, valloc, vstore, vbuild, arrF, vbuildSlice, vappend, vmake, zeroS, zeroE, vstrB, apC, nrm, nr1, nrL, keyL, neqs, diffs, V.app, V.len, vsrc, vdst, mkSl, mkBy, inOrd, placeAll, V.one, V.sto, V.csize, V.parts, V.cellsL, setMany, V.setB, V.setE, V.setO, V.noOwn, V.isOwn, vq, vcall, fzA, fz, fz1, fzL, fzN, rts, rt1, V.er, er1, er2, mixA, mixK, uargs, u1, R.add, vop, vbin, vint2, vstr2, vbool2, vnum, vun, vpick, vpick1, vbool, vconv, vnil, vfieldAddr, vindexAddr, vstEq, vindex, vload, vfield, aggD, vslice, bnd, uopt, vlen, vmin, vextract, Hpk, Hroot, refV, ownR, V.i, V.elems, V.cell, V.cut, V.exact, V.ex0, exL, V.cl, clL, V.sc, scL, scO, scH, V.ct, ct1, ct2, RetP, RetK, RetH, retL, retOne, Back, Veq, subH, obs, obsIf, En.get, En.put, En.ev, enOf, gcond, wantB, constV, exGet, subE, Sub, RV, RVL, NR, RO, subER, subHR, newLt, oldNe, oldOk, oldGe, notIn, ivN, lookN, SubR, Nm.root, Nat.reduceMul, Nat.reduceLeDiff, Nat.reduceEqDiff, Nat.reduceLT, Nat.reduceAdd, Nat.reduceSub, ↓reduceIte, implies_true, reduceCtorEq, ne_eq, ↓shr_eq, IntKind.bits, Int.reduceToNat, Int.reducePow, dite_eq_ite, Value.oneCell', Nat.reduceBEq, Nat.reduceDiv, bnS, bnN, bnT, G2, G2f, G2h, elPre, elPost, tloV, tlvOD, tlvD, df, unT_tlo, tlo_len, tlo_get, tlo_app, tlo_set, tlo_ct, tlo_sc, n1, n2, n3, n4, n5, n6, n9, n10, n11, n12]
            have hR := elF_ok l e
            obtain ⟨w1, w2, w3⟩ := hR.len p1 to o1 g1
            have w4 := hR.yes p1 to o1
            have w5 := hR.ret p1 to o1
            obtain ⟨m', w6⟩ := hR.pre p1 to o1
            have w7 : (elF l e p1 to o1).out = out ++ x :: (m ++ m') := by rw [w6, g7]; simp
            have w8 : ((elF l e p1 to o1).out.getD out.length default) = x := by rw [w7]; simp [List.getD_eq_getElem?_getD]
            obtain ⟨n, rfl⟩ : ∃ n', n = n' + 1 := ⟨n - 1, by omega⟩
            rw [kdF] at g6
            refine ⟨fun hlt => ?_, fun hge => ?_⟩
            · have hlt : p1 < to := by simpa using hlt
              rw [if_pos hlt] at g6
              rw [w8]
              refine ⟨by constructor <;> omega, by omega, by omega, by omega, by omega, by omega, by omega, by omega, by omega, by omega, fun hc => ?_, fun hc => ?_⟩
              · have hc : ¬ (elF l e p1 to o1).code = 0 := by simpa using hc
                rw [if_neg hc] at g6
                subst g6
                refine RenC.intro [(nx, nx + 2)] ⟨[(8, .val (.int .i64 0))], elPost l k nx ⟨(elF l e p1 to o1).out, (elF l e p1 to o1).code, (elF l e p1 to o1).place, 0⟩, nx + 1⟩ ?_ ?_
                · simp only [vmark, seqN, sameBox, boxJs, vquietR, vopsR, RetC, retW, cellR, undV, vgA, vbinN, vnn, isNilC, isIf, vconvH, vconvO, cvOk, frz1, frzE, jsOk, jsCo, rowsH, vgcH, vgH, vopsT, stepE, Kseq_app, vg_skip, vg_label, vg_seq, vg_region, vg_cond, vg_block, vg_exit, vg_ret, vg_loop, vcallF, vcallH, uls, HdelK, memN, noBox, ninL, keysH, jsAt, AdSub, adopt, noEl, isNil, effL, effO, vopsD, vquiet, vfstD, ldq, ldOk, vops, vfst, vone, vact, ug, addL, vbox, valloc, vstore, vbuild, arrF, vbuildSlice, vappend, vmake, zeroS, zeroE, vstrB, apC, nrm, nr1, nrL, keyL, neqs, diffs, V.app, V.len, vsrc, vdst, mkSl, mkBy, inOrd, placeAll, V.one, V.sto, V.csize, V.parts, V.cellsL, setMany, V.setB, V.setE, V.setO, V.noOwn, V.isOwn, vq, vcall, fzA, fz, fz1, fzL, fzN, rts, rt1, V.er, er1, er2, mixA, mixK, uargs, u1, R.add, vop, vbin, vint2, vstr2, vbool2, vnum, vun, vpick, vpick1, vbool, vconv, vnil, vfieldAddr, vindexAddr, vstEq, vindex, vload, vfield, aggD, vslice, bnd, uopt, vlen, vmin, vextract, Hpk, Hroot, refV, ownR, V.i, V.elems, V.cell, V.cut, V.exact, V.ex0, exL, V.cl, clL, V.sc, scL, scO, scH, V.ct, ct1, ct2, RetP, RetK, RetH, retL, retOne, Back, Veq, subH, obs, obsIf, En.get, En.put, En.ev, enOf, gcond, wantB, constV, exGet, subE, Sub, RV, RVL, NR, RO, subER, subHR, newLt, oldNe, oldOk, oldGe, notIn, ivN, lookN, SubR, Nm.root, Nat.reduceMul, Nat.reduceLeDiff, Nat.reduceEqDiff, Nat.reduceLT, Nat.reduceAdd, Nat.reduceSub, ↓reduceIte, implies_true, reduceCtorEq, ne_eq, ↓shr_eq, IntKind.bits, Int.reduceToNat, Int.reducePow, dite_eq_ite, Value.oneCell', Nat.reduceBEq, Nat.reduceDiv, bnS, bnN, bnT, elPost, tloV, tlvOD, tlo_ct, n1, n2, n3, n4, n5, n6, n7, n8, n9, n10, n11, n12, hk, hr]
                  refine ⟨by omega, by omega, by simp⟩
                · simp only [vmark, seqN, sameBox, boxJs, vquietR, vopsR, RetC, retW, cellR, undV, vgA, vbinN, vnn, isNilC, isIf, vconvH, vconvO, cvOk, frz1, frzE, jsOk, jsCo, rowsH, vgcH, vgH, vopsT, stepE, Kseq_app, vg_skip, vg_label, vg_seq, vg_region, vg_cond, vg_block, vg_exit, vg_ret, vg_loop, vcallF, vcallH, uls, HdelK, memN, noBox, ninL, keysH, jsAt, AdSub, adopt, noEl, isNil, effL, effO, vopsD, vquiet, vfstD, ldq, ldOk, vops, vfst, vone, vact, ug, addL, vbox, valloc, vstore, vbuild, arrF, vbuildSlice, vappend, vmake, zeroS, zeroE, vstrB, apC, nrm, nr1, nrL, keyL, neqs, diffs, V.app, V.len, vsrc, vdst, mkSl, mkBy, inOrd, placeAll, V.one, V.sto, V.csize, V.parts, V.cellsL, setMany, V.setB, V.setE, V.setO, V.noOwn, V.isOwn, vq, vcall, fzA, fz, fz1, fzL, fzN, rts, rt1, V.er, er1, er2, mixA, mixK, uargs, u1, R.add, vop, vbin, vint2, vstr2, vbool2, vnum, vun, vpick, vpick1, vbool, vconv, vnil, vfieldAddr, vindexAddr, vstEq, vindex, vload, vfield, aggD, vslice, bnd, uopt, vlen, vmin, vextract, Hpk, Hroot, refV, ownR, V.i, V.elems, V.cell, V.cut, V.exact, V.ex0, exL, V.cl, clL, V.sc, scL, scO, scH, V.ct, ct1, ct2, RetP, RetK, RetH, retL, retOne, Back, Veq, subH, obs, obsIf, En.get, En.put, En.ev, enOf, gcond, wantB, constV, exGet, subE, Sub, RV, RVL, NR, RO, subER, subHR, newLt, oldNe, oldOk, oldGe, notIn, ivN, lookN, SubR, Nm.root, Nat.reduceMul, Nat.reduceLeDiff, Nat.reduceEqDiff, Nat.reduceLT, Nat.reduceAdd, Nat.reduceSub, ↓reduceIte, implies_true, reduceCtorEq, ne_eq, ↓shr_eq, IntKind.bits, Int.reduceToNat, Int.reducePow, dite_eq_ite, Value.oneCell', Nat.reduceBEq, Nat.reduceDiv, bnS, bnN, bnT, elPost, tloV, tlvOD, n1, n2, n3, n4, n5, n6, n7, n8, n9, n10, n11, n12, hk, hr]
                  simp
              · have hc : (elF l e p1 to o1).code = 0 := by simpa using hc
                rw [if_pos hc] at g6
                obtain ⟨v1, v2, v3⟩ := w4 hc
                refine ⟨by omega, by omega, by omega, by constructor <;> omega, by omega, by omega, by omega, ?_⟩
                have w9 : addKid (elF l e p1 to o1).out out.length = (elF l e p1 to o1).out.set out.length ⟨x.tag, x.data, x.kids + 1⟩ := by unfold addKid; rw [w8]
                refine Again.introR ((elF l e p1 to o1).ret, addKid (elF l e p1 to o1).out out.length) [(nx + 1, nx + 2)] ⟨by simp only; omega, by simp only; omega, by simp only [addKid_len]; omega, by simp only [addKid_len]; omega, ⟨⟨x.tag, x.data, x.kids + 1⟩, m ++ m', by simp only; rw [w7, addKid_at], by simp only; omega, by simp only; omega⟩, n, by simp only; omega, g6⟩ (by simp only; omega) ?_
                rw [hc, v3]
                simp only [w9, vmark, seqN, sameBox, boxJs, vquietR, vopsR, RetC, retW, cellR, undV, vgA, vbinN, vnn, isNilC, isIf, vconvH, vconvO, cvOk, frz1, frzE, jsOk, jsCo, rowsH, vgcH, vgH, vopsT, stepE, Kseq_app, vg_skip, vg_label, vg_seq, vg_region, vg_cond, vg_block, vg_exit, vg_ret, vg_loop, vcallF, vcallH, uls, HdelK, memN, noBox, ninL, keysH, jsAt, AdSub, adopt, noEl, isNil, effL, effO, vopsD, vquiet, vfstD, ldq, ldOk, vops, vfst, vone, vact, ug, addL, vbox, valloc, vstore, vbuild, arrF, vbuildSlice, vappend, vmake, zeroS, zeroE, vstrB, apC, nrm, nr1, nrL, keyL, neqs, diffs, V.app, V.len, vsrc, vdst, mkSl, mkBy, inOrd, placeAll, V.one, V.sto, V.csize, V.parts, V.cellsL, setMany, V.setB, V.setE, V.setO, V.noOwn, V.isOwn, vq, vcall, fzA, fz, fz1, fzL, fzN, rts, rt1, V.er, er1, er2, mixA, mixK, uargs, u1, R.add, vop, vbin, vint2, vstr2, vbool2, vnum, vun, vpick, vpick1, vbool, vconv, vnil, vfieldAddr, vindexAddr, vstEq, vindex, vload, vfield, aggD, vslice, bnd, uopt, vlen, vmin, vextract, Hpk, Hroot, refV, ownR, V.i, V.elems, V.cell, V.cut, V.exact, V.ex0, exL, V.cl, clL, V.sc, scL, scO, scH, V.ct, ct1, ct2, RetP, RetK, RetH, retL, retOne, Back, Veq, subH, obs, obsIf, En.get, En.put, En.ev, enOf, gcond, wantB, constV, exGet, subE, Sub, RV, RVL, NR, RO, subER, subHR, newLt, oldNe, oldOk, oldGe, notIn, ivN, lookN, SubR, Nm.root, Nat.reduceMul, Nat.reduceLeDiff, Nat.reduceEqDiff, Nat.reduceLT, Nat.reduceAdd, Nat.reduceSub, ↓reduceIte, implies_true, reduceCtorEq, ne_eq, ↓shr_eq, IntKind.bits, Int.reduceToNat, Int.reducePow, dite_eq_ite, Value.oneCell', Nat.reduceBEq, Nat.reduceDiv, bnS, bnN, bnT, tloV, tlvOD, tlo_ct, n1, n2, n3, n4, n5, n6, n7, n8, n9, n10, n11, n12, hk, hr]
                refine ⟨by omega, by omega, by simp⟩
            · have hge : ¬ p1 < to := by simpa using hge
              rw [if_neg hge] at g6
              subst g6
              refine RenC.intro [(nx, nx + 1)] ⟨[(8, .val (.int .i64 to))], elPost l k nx ⟨o1, 0, 0, to⟩, nx + 1⟩ ?_ ?_
              · simp only [vmark, seqN, sameBox, boxJs, vquietR, vopsR, RetC, retW, cellR, undV, vgA, vbinN, vnn, isNilC, isIf, vconvH, vconvO, cvOk, frz1, frzE, jsOk, jsCo, rowsH, vgcH, vgH, vopsT, stepE, Kseq_app, vg_skip, vg_label, vg_seq, vg_region, vg_cond, vg_block, vg_exit, vg_ret, vg_loop, vcallF, vcallH, uls, HdelK, memN, noBox, ninL, keysH, jsAt, AdSub, adopt, noEl, isNil, effL, effO, vopsD, vquiet, vfstD, ldq, ldOk, vops, vfst, vone, vact, ug, addL, vbox, valloc, vstore, vbuild, arrF, vbuildSlice, vappend, vmake, zeroS, zeroE, vstrB, apC, nrm, nr1, nrL, keyL, neqs, diffs, V.app, V.len, vsrc, vdst, mkSl, mkBy, inOrd, placeAll, V.one, V.sto, V.csize, V.parts, V.cellsL, setMany, V.setB, V.setE, V.setO, V.noOwn, V.isOwn, vq, vcall, fzA, fz, fz1, fzL, fzN, rts, rt1, V.er, er1, er2, mixA, mixK, uargs, u1, R.add, vop, vbin, vint2, vstr2, vbool2, vnum, vun, vpick, vpick1, vbool, vconv, vnil, vfieldAddr, vindexAddr, vstEq, vindex, vload, vfield, aggD, vslice, bnd, uopt, vlen, vmin, vextract, Hpk, Hroot, refV, ownR, V.i, V.elems, V.cell, V.cut, V.exact, V.ex0, exL, V.cl, clL, V.sc, scL, scO, scH, V.ct, ct1, ct2, RetP, RetK, RetH, retL, retOne, Back, Veq, subH, obs, obsIf, En.get, En.put, En.ev, enOf, gcond, wantB, constV, exGet, subE, Sub, RV, RVL, NR, RO, subER, subHR, newLt, oldNe, oldOk, oldGe, notIn, ivN, lookN, SubR, Nm.root, Nat.reduceMul, Nat.reduceLeDiff, Nat.reduceEqDiff, Nat.reduceLT, Nat.reduceAdd, Nat.reduceSub, ↓reduceIte, implies_true, reduceCtorEq, ne_eq, ↓shr_eq, IntKind.bits, Int.reduceToNat, Int.reducePow, dite_eq_ite, Value.oneCell', Nat.reduceBEq, Nat.reduceDiv, bnS, bnN, bnT, elPost, tloV, tlvOD, tlo_ct, n1, n2, n3, n4, n5, n6, n7, n8, n9, n10, n11, n12, hk, hr]
                refine ⟨by omega, by omega, by simp⟩
              · simp only [vmark, seqN, sameBox, boxJs, vquietR, vopsR, RetC, retW, cellR, undV, vgA, vbinN, vnn, isNilC, isIf, vconvH, vconvO, cvOk, frz1, frzE, jsOk, jsCo, rowsH, vgcH, vgH, vopsT, stepE, Kseq_app, vg_skip, vg_label, vg_seq, vg_region, vg_cond, vg_block, vg_exit, vg_ret, vg_loop, vcallF, vcallH, uls, HdelK, memN, noBox, ninL, keysH, jsAt, AdSub, adopt, noEl, isNil, effL, effO, vopsD, vquiet, vfstD, ldq, ldOk, vops, vfst, vone, vact, ug, addL, vbox, valloc, vstore, vbuild, arrF, vbuildSlice, vappend, vmake, zeroS, zeroE, vstrB, apC, nrm, nr1, nrL, keyL, neqs, diffs, V.app, V.len, vsrc, vdst, mkSl, mkBy, inOrd, placeAll, V.one, V.sto, V.csize, V.parts, V.cellsL, setMany, V.setB, V.setE, V.setO, V.noOwn, V.isOwn, vq, vcall, fzA, fz, fz1, fzL, fzN, rts, rt1, V.er, er1, er2, mixA, mixK, uargs, u1, R.add, vop, vbin, vint2, vstr2, vbool2, vnum, vun, vpick, vpick1, vbool, vconv, vnil, vfieldAddr, vindexAddr, vstEq, vindex, vload, vfield, aggD, vslice, bnd, uopt, vlen, vmin, vextract, Hpk, Hroot, refV, ownR, V.i, V.elems, V.cell, V.cut, V.exact, V.ex0, exL, V.cl, clL, V.sc, scL, scO, scH, V.ct, ct1, ct2, RetP, RetK, RetH, retL, retOne, Back, Veq, subH, obs, obsIf, En.get, En.put, En.ev, enOf, gcond, wantB, constV, exGet, subE, Sub, RV, RVL, NR, RO, subER, subHR, newLt, oldNe, oldOk, oldGe, notIn, ivN, lookN, SubR, Nm.root, Nat.reduceMul, Nat.reduceLeDiff, Nat.reduceEqDiff, Nat.reduceLT, Nat.reduceAdd, Nat.reduceSub, ↓reduceIte, implies_true, reduceCtorEq, ne_eq, ↓shr_eq, IntKind.bits, Int.reduceToNat, Int.reducePow, dite_eq_ite, Value.oneCell', Nat.reduceBEq, Nat.reduceDiv, bnS, bnN, bnT, elPost, tloV, tlvOD, n1, n2, n3, n4, n5, n6, n7, n8, n9, n10, n11, n12, hk, hr]
                simp
  · have hbd := badF_no hh
    rw [hh]
    refine ⟨by simp, by simp, by simp, by simp, by simp, fun _ => bad hbd _ rfl, fun h => absurd h (by simp)⟩
end Go.Proofs.YtmafmdnmoccohaaGreatDoor
