/- The document's Behind, Kids, Member: the walks. -/
import Derived.Test.YtbjfhnbgiajnjaaDoorJTake
namespace Go.Proofs.YtbjfhnbgiajnjaaDoor
open Go.RowKit
set_option linter.unusedSimpArgs false
set_option maxRecDepth 100000
def JBf (d : Nat) (o : Bool) : FuncId → List V → Option (List Prop × Bool × V) := fun f args =>
  if f = 24 then match args with
    | [.sq 6 dd L, .val (.int .i64 a)] => some ([dd = ndD, L = nds (unN L), Few (unN L), 0 ≤ a, 1 ≤ d, (take1 plainF Lib.validD (d - 1) o ((unN L).drop a.toNat)).isSome = true], false, .i (tkF (unN L) (d - 1) o a.toNat))
    | _ => none
  else none
def JB (J : Inv) (d : Nat) (o : Bool) : Sig := ⟨J, jdf, JBf d o, noH, 0⟩
def RbOk (J : Inv) (d : Nat) : Prop := ∀ (v : List Nd) (a : Nat) (o : Bool), Few v → (take1 plainF Lib.validD d o (v.drop a)).isSome = true → Fn Tryd.prog J 24 false [ndsV v, .i a] (.i (tkF v d o a))
theorem JB_ok (J : Inv) (d : Nat) (o : Bool) (hd : ∀ e, d = e + 1 → RbOk J e) : SigOk Tryd.prog (JB J d o) := by
  refine .plain fun f args l fr r h hl => ?_
  change JBf d o f args = some (l, fr, r) at h
  unfold JBf at h
  split at h
  · rename_i hf; subst hf
    split at h
    · rename_i dd L a
      obtain ⟨rfl, rfl, rfl⟩ := jsome_tri h
      have h1 : dd = ndD := hl _ (by simp)
      have h2 : L = nds (unN L) := hl _ (by simp)
      have h3 : Few (unN L) := hl _ (by simp)
      have h4 : (0 : Int) ≤ a := hl _ (by simp)
      have h5 : 1 ≤ d := hl _ (by simp)
      have h6 : (take1 plainF Lib.validD (d - 1) o ((unN L).drop a.toNat)).isSome = true := hl _ (by simp)
      subst h1
      obtain ⟨e, rfl⟩ : ∃ e, d = e + 1 := ⟨d - 1, by omega⟩
      obtain ⟨a, rfl⟩ : ∃ n : Nat, a = n := ⟨a.toNat, by omega⟩
      have := hd e rfl (unN L) a o h3 h6
      unfold ndsV at this
      rw [← h2] at this
      exact this
    · exact absurd h (by simp)
  · exact absurd h (by simp)
theorem takeK_one {t1 : List Nd → Option (List Nd)} (ht : Goes t1) {obj : Bool} {q : Nat} {ns : List (List UInt8)} {v r : List Nd} {k : Nat} (h : takeK t1 obj (q + 1) ns (v.drop k) = some r) :
    ∃ r1, t1 (v.drop k) = some r1 ∧ k < v.length ∧ r1.length < v.length - k ∧ v.drop (v.length - r1.length) = r1 ∧ takeK t1 obj q (ns ++ [(v.getD k default).key]) r1 = some r := by
  have hk : k < v.length := by
    rcases Nat.lt_or_ge k v.length with hk | hk
    · exact hk
    · rw [List.drop_eq_nil_of_le hk] at h; cases h
  rw [nd_drop hk] at h
  simp only [takeK] at h
  rw [← nd_drop hk] at h
  cases hr : t1 (v.drop k) with
  | none => rw [hr] at h; cases h
  | some r1 =>
    rw [hr] at h
    simp only at h
    split at h
    · cases h
    · obtain ⟨g1, g2, _⟩ := ht _ _ hr
      rw [List.length_drop] at g1 g2
      rw [List.drop_drop] at g2
      refine ⟨r1, rfl, hk, g1, ?_, h⟩
      have hk2 : v.length - r1.length = k + (v.length - k - r1.length) := by omega
      rw [hk2]; exact g2
theorem rb_step (J : Inv) (d : Nat) (hd : ∀ e, d = e + 1 → RbOk J e) : RbOk J d := fun v a o hv ht => by
  have hl := hv.1
  have ha : a < v.length := by
    rcases Nat.lt_or_ge a v.length with h | h
    · exact h
    · rw [List.drop_eq_nil_of_le h, take1_nil] at ht; cases ht
  obtain ⟨r, hr⟩ := Option.isSome_iff_exists.1 ht
  have hg := (take1_goes plainF_kids d o _ _ hr).1
  rw [List.length_drop] at hg
  generalize hR : tkF v d o a = rr
  unfold tkF at hR
  rw [hr, posF] at hR
  obtain ⟨n, hn⟩ : ∃ n, n = v.getD a default := ⟨_, rfl⟩
  rw [nd_drop ha, take1_cons, ← hn] at hr
  have hok : okF plainF Lib.validD n o d = true := by
    cases h : okF plainF Lib.validD n o d with
    | true => rfl
    | false => rw [h] at hr; cases hr
  rw [if_pos hok] at hr
  have hpl : plainF n = true := by simp only [okF, Bool.and_eq_true] at hok; exact hok.1.1.1
  have hkd := plainF_kids n hpl
  have hkc : n.kids ≠ 0 → d ≠ 0 := fun h1 h2 => by
    have h3 : isC n = true := by
      cases h : isC n with
      | true => rfl
      | false => exact absurd (hkd.2 h) h1
    rw [okF, h3, h2] at hok
    simp at hok
  have hkd := hkd.1
  have hkl : n.kids ≤ 1048576 := by rw [hn]; exact (hv.at ha).2
  refine fn_intro Tryd.func24 rfl (by kernel_rfl) (Nat.le_of_ble_eq_true (by kernel_rfl)) (by kernel_rfl) (by kernel_rfl) rfl (JB_ok J d (n.kind == 7) hd) ?_
  unfold Tryd.f24
  simp only [eqC, vlook, vmark, seqN, sameBox, boxJs, vquietR, vopsR, RetC, retW, cellR, undV, vgA, vbinN, vnn, isNilC, isIf, vconvH, vconvO, cvOk, frz1, frzE, jsOk, jsCo, rowsH, vgcH, vgH, vopsT, stepE, Kseq_app, vg_skip, vg_label, vg_seq, vg_region, vg_cond, vg_block, vg_exit, vg_ret, vg_loop, vcallF, vcallH, uls, HdelK, memN, noBox, ninL, keysH, jsAt, AdSub, adopt, noEl, isNil, effL, effO, vopsD, vquiet, vfstD, ldq, ldOk, vops, vfst, vone, vact, ug, addL, vbox, valloc, vstore, vbuild, arrF, vbuildSlice, vappend, vmake, zeroS, zeroE, vstrB, apC, nrm, nr1, nrL, keyL, neqs, diffs, V.app, V.len, vsrc, vdst, mkSl, mkBy, inOrd, placeAll, V.one, V.sto, V.csize, V.parts, V.cellsL, setMany, V.setB, V.setE, V.setO, V.noOwn, V.isOwn, vq, vcall, fzA, fz, fz1, fzL, fzN, rts, rt1, V.er, er1, er2, mixA, mixK, uargs, u1, R.add, vop, vbin, vint2, vstr2, vbool2, vnum, vun, vpick, vpick1, vbool, vconv, vnil, vfieldAddr, vindexAddr, vstEq, vindex, vload, vfield, aggD, vslice, bnd, uopt, vlen, vmin, vextract, Hpk, Hroot, refV, ownR, V.i, V.elems, V.cell, V.cut, V.exact, V.ex0, exL, V.cl, clL, V.sc, scL, scO, scH, V.ct, ct1, ct2, RetP, RetK, RetH, retL, retOne, Back, Veq, subH, obs, obsIf, En.get, En.put, En.ev, enOf, gcond, wantB, constV, exGet, subE, Sub, RV, RVL, NR, RO, subER, subHR, newLt, oldNe, oldOk, oldGe, notIn, ivN, lookN, SubR, Nm.root, Nat.reduceMul, Nat.reduceLeDiff, Nat.reduceEqDiff, Nat.reduceLT, Nat.reduceAdd, Nat.reduceSub, ↓reduceIte, implies_true, reduceCtorEq, ne_eq, ↓shr_eq, IntKind.bits, Int.reduceToNat, Int.reducePow, dite_eq_ite, Value.oneCell', Nat.reduceBEq, Nat.reduceDiv, bnS, bnN, bnT, jsB, JB, JBf, ndsV, ndD, jdf, ← hn, unN_nds]
  refine ⟨fun h => ?_, fun h => ⟨by constructor <;> omega, ?_⟩⟩
  · simp only [Bool.or_eq_true, decide_eq_true_eq] at h; omega
  · refine LoopC.intro (α := Nat × Nat × List (List UInt8)) (fun y => y.1 ≤ n.kids.toNat ∧ y.2.1 ≤ v.length ∧ takeK (inF plainF Lib.validD d n) (n.kind == 7) (n.kids.toNat - y.1) y.2.2 (v.drop y.2.1) = some r)
      (fun y => ⟨[(0, ndsV v), (1, .i a), (5, .i y.2.1), (6, .i y.1)], [], 0⟩) (fun y => n.kids.toNat - y.1) (0, a + 1, []) ⟨Nat.zero_le _, by simp only; omega, hr⟩ ?_ ?_
    · simp only [eqC, vlook, vmark, seqN, sameBox, boxJs, vquietR, vopsR, RetC, retW, cellR, undV, vgA, vbinN, vnn, isNilC, isIf, vconvH, vconvO, cvOk, frz1, frzE, jsOk, jsCo, rowsH, vgcH, vgH, vopsT, stepE, Kseq_app, vg_skip, vg_label, vg_seq, vg_region, vg_cond, vg_block, vg_exit, vg_ret, vg_loop, vcallF, vcallH, uls, HdelK, memN, noBox, ninL, keysH, jsAt, AdSub, adopt, noEl, isNil, effL, effO, vopsD, vquiet, vfstD, ldq, ldOk, vops, vfst, vone, vact, ug, addL, vbox, valloc, vstore, vbuild, arrF, vbuildSlice, vappend, vmake, zeroS, zeroE, vstrB, apC, nrm, nr1, nrL, keyL, neqs, diffs, V.app, V.len, vsrc, vdst, mkSl, mkBy, inOrd, placeAll, V.one, V.sto, V.csize, V.parts, V.cellsL, setMany, V.setB, V.setE, V.setO, V.noOwn, V.isOwn, vq, vcall, fzA, fz, fz1, fzL, fzN, rts, rt1, V.er, er1, er2, mixA, mixK, uargs, u1, R.add, vop, vbin, vint2, vstr2, vbool2, vnum, vun, vpick, vpick1, vbool, vconv, vnil, vfieldAddr, vindexAddr, vstEq, vindex, vload, vfield, aggD, vslice, bnd, uopt, vlen, vmin, vextract, Hpk, Hroot, refV, ownR, V.i, V.elems, V.cell, V.cut, V.exact, V.ex0, exL, V.cl, clL, V.sc, scL, scO, scH, V.ct, ct1, ct2, RetP, RetK, RetH, retL, retOne, Back, Veq, subH, obs, obsIf, En.get, En.put, En.ev, enOf, gcond, wantB, constV, exGet, subE, Sub, RV, RVL, NR, RO, subER, subHR, newLt, oldNe, oldOk, oldGe, notIn, ivN, lookN, SubR, Nm.root, Nat.reduceMul, Nat.reduceLeDiff, Nat.reduceEqDiff, Nat.reduceLT, Nat.reduceAdd, Nat.reduceSub, ↓reduceIte, implies_true, reduceCtorEq, ne_eq, ↓shr_eq, IntKind.bits, Int.reduceToNat, Int.reducePow, dite_eq_ite, Value.oneCell', Nat.reduceBEq, Nat.reduceDiv, bnS, bnN, bnT, jsB, ndsV, ndD]
      exact ⟨by omega, rfl⟩
    · rintro ⟨i, k, ns⟩ ⟨q1, q2, q3⟩
      simp only at q1 q2 q3
      simp only [eqC, vlook, vmark, seqN, sameBox, boxJs, vquietR, vopsR, RetC, retW, cellR, undV, vgA, vbinN, vnn, isNilC, isIf, vconvH, vconvO, cvOk, frz1, frzE, jsOk, jsCo, rowsH, vgcH, vgH, vopsT, stepE, Kseq_app, vg_skip, vg_label, vg_seq, vg_region, vg_cond, vg_block, vg_exit, vg_ret, vg_loop, vcallF, vcallH, uls, HdelK, memN, noBox, ninL, keysH, jsAt, AdSub, adopt, noEl, isNil, effL, effO, vopsD, vquiet, vfstD, ldq, ldOk, vops, vfst, vone, vact, ug, addL, vbox, valloc, vstore, vbuild, arrF, vbuildSlice, vappend, vmake, zeroS, zeroE, vstrB, apC, nrm, nr1, nrL, keyL, neqs, diffs, V.app, V.len, vsrc, vdst, mkSl, mkBy, inOrd, placeAll, V.one, V.sto, V.csize, V.parts, V.cellsL, setMany, V.setB, V.setE, V.setO, V.noOwn, V.isOwn, vq, vcall, fzA, fz, fz1, fzL, fzN, rts, rt1, V.er, er1, er2, mixA, mixK, uargs, u1, R.add, vop, vbin, vint2, vstr2, vbool2, vnum, vun, vpick, vpick1, vbool, vconv, vnil, vfieldAddr, vindexAddr, vstEq, vindex, vload, vfield, aggD, vslice, bnd, uopt, vlen, vmin, vextract, Hpk, Hroot, refV, ownR, V.i, V.elems, V.cell, V.cut, V.exact, V.ex0, exL, V.cl, clL, V.sc, scL, scO, scH, V.ct, ct1, ct2, RetP, RetK, RetH, retL, retOne, Back, Veq, subH, obs, obsIf, En.get, En.put, En.ev, enOf, gcond, wantB, constV, exGet, subE, Sub, RV, RVL, NR, RO, subER, subHR, newLt, oldNe, oldOk, oldGe, notIn, ivN, lookN, SubR, Nm.root, Nat.reduceMul, Nat.reduceLeDiff, Nat.reduceEqDiff, Nat.reduceLT, Nat.reduceAdd, Nat.reduceSub, ↓reduceIte, implies_true, reduceCtorEq, ne_eq, ↓shr_eq, IntKind.bits, Int.reduceToNat, Int.reducePow, dite_eq_ite, Value.oneCell', Nat.reduceBEq, Nat.reduceDiv, bnS, bnN, bnT, jsB, JB, JBf, ndsV, ndD, jdf, ← hn, unN_nds]
      refine ⟨by omega, by omega, fun h5 => ?_, fun h5 => ?_⟩
      · simp only [Bool.and_eq_true, decide_eq_true_eq] at h5
        obtain ⟨e, rfl⟩ : ∃ e, d = e + 1 := ⟨d - 1, by have := hkc (by omega); omega⟩
        obtain ⟨q, hq⟩ : ∃ q, n.kids.toNat - i = q + 1 := ⟨n.kids.toNat - i - 1, by omega⟩
        have hq2 : n.kids.toNat - (i + 1) = q := by omega
        have hin : inF plainF Lib.validD (e + 1) n = take1 plainF Lib.validD e (n.kind == 7) := rfl
        rw [hin, hq] at q3
        obtain ⟨r1, s1, s2, s3, s4, s5⟩ := takeK_one (take1_goes plainF_kids e (n.kind == 7)) q3
        have hT : tkF v (e + 1 - 1) (n.kind == 7) k = ((v.length - r1.length : Nat) : Int) := by
          unfold tkF
          rw [show e + 1 - 1 = e from rfl, s1, posF]; omega
        rw [hT]
        refine ⟨hv, by omega, by omega, by rw [show e + 1 - 1 = e from rfl, s1]; rfl, by constructor <;> omega, Again.intro (i + 1, v.length - r1.length, ns ++ [(v.getD k default).key]) ⟨by simp only; omega, by simp only; omega, by simp only; rw [hq2, s4]; exact s5⟩ (by simp only; omega) ?_⟩
        simp only [eqC, vlook, vmark, seqN, sameBox, boxJs, vquietR, vopsR, RetC, retW, cellR, undV, vgA, vbinN, vnn, isNilC, isIf, vconvH, vconvO, cvOk, frz1, frzE, jsOk, jsCo, rowsH, vgcH, vgH, vopsT, stepE, Kseq_app, vg_skip, vg_label, vg_seq, vg_region, vg_cond, vg_block, vg_exit, vg_ret, vg_loop, vcallF, vcallH, uls, HdelK, memN, noBox, ninL, keysH, jsAt, AdSub, adopt, noEl, isNil, effL, effO, vopsD, vquiet, vfstD, ldq, ldOk, vops, vfst, vone, vact, ug, addL, vbox, valloc, vstore, vbuild, arrF, vbuildSlice, vappend, vmake, zeroS, zeroE, vstrB, apC, nrm, nr1, nrL, keyL, neqs, diffs, V.app, V.len, vsrc, vdst, mkSl, mkBy, inOrd, placeAll, V.one, V.sto, V.csize, V.parts, V.cellsL, setMany, V.setB, V.setE, V.setO, V.noOwn, V.isOwn, vq, vcall, fzA, fz, fz1, fzL, fzN, rts, rt1, V.er, er1, er2, mixA, mixK, uargs, u1, R.add, vop, vbin, vint2, vstr2, vbool2, vnum, vun, vpick, vpick1, vbool, vconv, vnil, vfieldAddr, vindexAddr, vstEq, vindex, vload, vfield, aggD, vslice, bnd, uopt, vlen, vmin, vextract, Hpk, Hroot, refV, ownR, V.i, V.elems, V.cell, V.cut, V.exact, V.ex0, exL, V.cl, clL, V.sc, scL, scO, scH, V.ct, ct1, ct2, RetP, RetK, RetH, retL, retOne, Back, Veq, subH, obs, obsIf, En.get, En.put, En.ev, enOf, gcond, wantB, constV, exGet, subE, Sub, RV, RVL, NR, RO, subER, subHR, newLt, oldNe, oldOk, oldGe, notIn, ivN, lookN, SubR, Nm.root, Nat.reduceMul, Nat.reduceLeDiff, Nat.reduceEqDiff, Nat.reduceLT, Nat.reduceAdd, Nat.reduceSub, ↓reduceIte, implies_true, reduceCtorEq, ne_eq, ↓shr_eq, IntKind.bits, Int.reduceToNat, Int.reducePow, dite_eq_ite, Value.oneCell', Nat.reduceBEq, Nat.reduceDiv, bnS, bnN, bnT, jsB, ndsV, ndD]
        omega
      · simp only [Bool.and_eq_false_iff, decide_eq_false_iff_not] at h5
        rw [show n.kids.toNat - i = 0 from by omega, takeK] at q3
        obtain rfl := Option.some.inj q3
        rw [List.length_drop] at hR
        omega
theorem rb_all (J : Inv) : ∀ d : Nat, RbOk J d
  | 0 => rb_step J 0 fun e he => by cases he
  | d + 1 => rb_step J (d + 1) fun e he => by
    obtain rfl : d = e := by omega
    exact rb_all J d
/-- The places of so many values. -/
def kdF (N : Nat) (t1 : List Nd → Option (List Nd)) : Nat → List Nd → List Int
  | 0, _ => []
  | k + 1, l => ((N : Int) - l.length) :: match t1 l with
    | none => []
    | some r => kdF N t1 k r
theorem kdF_len (N : Nat) {t1 : List Nd → Option (List Nd)} {obj : Bool} : ∀ {k : Nat} {ns : List (List UInt8)} {l r : List Nd}, takeK t1 obj k ns l = some r → (kdF N t1 k l).length = k
  | 0, _, _, _, _ => rfl
  | k + 1, ns, l, r, h => by
    cases l with
    | nil => cases h
    | cons x y =>
      simp only [takeK] at h
      cases hr : t1 (x :: y) with
      | none => rw [hr] at h; cases h
      | some r1 =>
        rw [hr] at h
        simp only at h
        split at h
        · cases h
        · have := kdF_len N h
          simp only [kdF, hr, List.length_cons, this]
def JKf (d : Nat) (o : Bool) : FuncId → List V → Option (List Prop × Bool × V) := fun f args =>
  if f = 24 then match args with
    | [.sq 6 dd L, .val (.int .i64 a)] => some ([dd = ndD, L = nds (unN L), Few (unN L), 0 ≤ a, (take1 plainF Lib.validD d o ((unN L).drop a.toNat)).isSome = true], false, .i (tkF (unN L) d o a.toNat))
    | _ => none
  else none
def JK (J : Inv) (d : Nat) (o : Bool) : Sig := ⟨J, jdf, JKf d o, noH, 0⟩
theorem JK_ok (J : Inv) (d : Nat) (o : Bool) : SigOk Tryd.prog (JK J d o) := by
  refine .plain fun f args l fr r h hl => ?_
  change JKf d o f args = some (l, fr, r) at h
  unfold JKf at h
  split at h
  · rename_i hf; subst hf
    split at h
    · rename_i dd L a
      obtain ⟨rfl, rfl, rfl⟩ := jsome_tri h
      have h1 : dd = ndD := hl _ (by simp)
      have h2 : L = nds (unN L) := hl _ (by simp)
      have h3 : Few (unN L) := hl _ (by simp)
      have h4 : (0 : Int) ≤ a := hl _ (by simp)
      have h6 : (take1 plainF Lib.validD d o ((unN L).drop a.toNat)).isSome = true := hl _ (by simp)
      subst h1
      obtain ⟨a, rfl⟩ : ∃ n : Nat, a = n := ⟨a.toNat, by omega⟩
      have := rb_all J d (unN L) a o h3 h6
      unfold ndsV at this
      rw [← h2] at this
      exact this
    · exact absurd h (by simp)
  · exact absurd h (by simp)
theorem rKids_own (J : Inv) (v : List Nd) (a d : Nat) (o : Bool) (hv : Few v) (ha : a < v.length) (ns : List (List UInt8)) (r : List Nd) (hk0 : 0 ≤ (v.getD a default).kids) (hr : takeK (take1 plainF Lib.validD d o) o (v.getD a default).kids.toNat ns (v.drop (a + 1)) = some r) :
    FnH Tryd.prog J 17 [ndsV v, .i a] [] 0 (.ro (.r 0)) [(0, .row 3 (.sq 1 (.i 0) (nums .i64 (kdF v.length (take1 plainF Lib.validD d o) (v.getD a default).kids.toNat (v.drop (a + 1))))))] 1 := by
  have hl := hv.1
  generalize hR : kdF v.length (take1 plainF Lib.validD d o) (v.getD a default).kids.toNat (v.drop (a + 1)) = rr
  obtain ⟨n, hn⟩ : ∃ n, n = v.getD a default := ⟨_, rfl⟩
  rw [← hn] at hk0 hr hR
  have hkl : n.kids ≤ 1048576 := by rw [hn]; exact (hv.at ha).2
  refine fnH_intro Tryd.func17 rfl (by kernel_rfl) (Nat.le_of_ble_eq_true (by kernel_rfl)) (by kernel_rfl) (by kernel_rfl) (JK_ok J d o) rfl ?_
  unfold Tryd.f17
  simp only [eqC, vlook, vmark, seqN, sameBox, boxJs, vquietR, vopsR, RetC, retW, cellR, undV, vgA, vbinN, vnn, isNilC, isIf, vconvH, vconvO, cvOk, frz1, frzE, jsOk, jsCo, rowsH, vgcH, vgH, vopsT, stepE, Kseq_app, vg_skip, vg_label, vg_seq, vg_region, vg_cond, vg_block, vg_exit, vg_ret, vg_loop, vcallF, vcallH, uls, HdelK, memN, noBox, ninL, keysH, jsAt, AdSub, adopt, noEl, isNil, effL, effO, vopsD, vquiet, vfstD, ldq, ldOk, vops, vfst, vone, vact, ug, addL, vbox, valloc, vstore, vbuild, arrF, vbuildSlice, vappend, vmake, zeroS, zeroE, vstrB, apC, nrm, nr1, nrL, keyL, neqs, diffs, V.app, V.len, vsrc, vdst, mkSl, mkBy, inOrd, placeAll, V.one, V.sto, V.csize, V.parts, V.cellsL, setMany, V.setB, V.setE, V.setO, V.noOwn, V.isOwn, vq, vcall, fzA, fz, fz1, fzL, fzN, rts, rt1, V.er, er1, er2, mixA, mixK, uargs, u1, R.add, vop, vbin, vint2, vstr2, vbool2, vnum, vun, vpick, vpick1, vbool, vconv, vnil, vfieldAddr, vindexAddr, vstEq, vindex, vload, vfield, aggD, vslice, bnd, uopt, vlen, vmin, vextract, Hpk, Hroot, refV, ownR, V.i, V.elems, V.cell, V.cut, V.exact, V.ex0, exL, V.cl, clL, V.sc, scL, scO, scH, V.ct, ct1, ct2, RetP, RetK, RetH, retL, retOne, Back, Veq, subH, obs, obsIf, En.get, En.put, En.ev, enOf, gcond, wantB, constV, exGet, subE, Sub, RV, RVL, NR, RO, subER, subHR, newLt, oldNe, oldOk, oldGe, notIn, ivN, lookN, SubR, Nm.root, Nat.reduceMul, Nat.reduceLeDiff, Nat.reduceEqDiff, Nat.reduceLT, Nat.reduceAdd, Nat.reduceSub, ↓reduceIte, implies_true, reduceCtorEq, ne_eq, ↓shr_eq, IntKind.bits, Int.reduceToNat, Int.reducePow, dite_eq_ite, Value.oneCell', Nat.reduceBEq, Nat.reduceDiv, bnS, bnN, bnT, jsB, JK, JKf, ndsV, ndD, jdf, ← hn, unN_nds]
  refine ⟨fun h => ?_, fun h => ⟨by constructor <;> omega, ?_⟩⟩
  · simp only [Bool.or_eq_true, decide_eq_true_eq] at h; omega
  · refine LoopC.introA (α := Nat × Nat × List (List UInt8) × List Int × Nat) (fun y => y.1 ≤ n.kids.toNat ∧ y.2.1 ≤ v.length ∧ takeK (take1 plainF Lib.validD d o) o (n.kids.toNat - y.1) y.2.2.1 (v.drop y.2.1) = some r ∧ y.2.2.2.1 ++ kdF v.length (take1 plainF Lib.validD d o) (n.kids.toNat - y.1) (v.drop y.2.1) = rr ∧ y.2.2.2.1.length = y.1)
      (fun y => ⟨[(0, ndsV v), (1, .i a), (6, .i y.2.1), (7, .i y.1), (5, .ro (.r y.2.2.2.2))], [(y.2.2.2.2, .row 3 (.sq 1 (.i 0) (nums .i64 y.2.2.2.1)))], y.2.2.2.2 + 1⟩) (fun y => n.kids.toNat - y.1) (0, a + 1, ns, [], 0) [.sl 5 3 (.sq 1 (.i 0) [])] ⟨Nat.zero_le _, by simp only; omega, hr, hR, rfl⟩ ?_ ?_
    · simp only [eqC, vlook, vmark, seqN, sameBox, boxJs, vquietR, vopsR, RetC, retW, cellR, undV, vgA, vbinN, vnn, isNilC, isIf, vconvH, vconvO, cvOk, frz1, frzE, jsOk, jsCo, rowsH, vgcH, vgH, vopsT, stepE, Kseq_app, vg_skip, vg_label, vg_seq, vg_region, vg_cond, vg_block, vg_exit, vg_ret, vg_loop, vcallF, vcallH, uls, HdelK, memN, noBox, ninL, keysH, jsAt, AdSub, adopt, noEl, isNil, effL, effO, vopsD, vquiet, vfstD, ldq, ldOk, vops, vfst, vone, vact, ug, addL, vbox, valloc, vstore, vbuild, arrF, vbuildSlice, vappend, vmake, zeroS, zeroE, vstrB, apC, nrm, nr1, nrL, keyL, neqs, diffs, V.app, V.len, vsrc, vdst, mkSl, mkBy, inOrd, placeAll, V.one, V.sto, V.csize, V.parts, V.cellsL, setMany, V.setB, V.setE, V.setO, V.noOwn, V.isOwn, vq, vcall, fzA, fz, fz1, fzL, fzN, rts, rt1, V.er, er1, er2, mixA, mixK, uargs, u1, R.add, vop, vbin, vint2, vstr2, vbool2, vnum, vun, vpick, vpick1, vbool, vconv, vnil, vfieldAddr, vindexAddr, vstEq, vindex, vload, vfield, aggD, vslice, bnd, uopt, vlen, vmin, vextract, Hpk, Hroot, refV, ownR, V.i, V.elems, V.cell, V.cut, V.exact, V.ex0, exL, V.cl, clL, V.sc, scL, scO, scH, V.ct, ct1, ct2, RetP, RetK, RetH, retL, retOne, Back, Veq, subH, obs, obsIf, En.get, En.put, En.ev, enOf, gcond, wantB, constV, exGet, subE, Sub, RV, RVL, NR, RO, subER, subHR, newLt, oldNe, oldOk, oldGe, notIn, ivN, lookN, SubR, Nm.root, Nat.reduceMul, Nat.reduceLeDiff, Nat.reduceEqDiff, Nat.reduceLT, Nat.reduceAdd, Nat.reduceSub, ↓reduceIte, implies_true, reduceCtorEq, ne_eq, ↓shr_eq, IntKind.bits, Int.reduceToNat, Int.reducePow, dite_eq_ite, Value.oneCell', Nat.reduceBEq, Nat.reduceDiv, bnS, bnN, bnT, jsB, ndsV, ndD]
      exact ⟨⟨by omega, rfl⟩, rfl⟩
    · rintro ⟨i, k, ks, L, m⟩ ⟨q1, q2, q3, q4, q5⟩
      simp only at q1 q2 q3 q4 q5
      simp only [eqC, vlook, vmark, seqN, sameBox, boxJs, vquietR, vopsR, RetC, retW, cellR, undV, vgA, vbinN, vnn, isNilC, isIf, vconvH, vconvO, cvOk, frz1, frzE, jsOk, jsCo, rowsH, vgcH, vgH, vopsT, stepE, Kseq_app, vg_skip, vg_label, vg_seq, vg_region, vg_cond, vg_block, vg_exit, vg_ret, vg_loop, vcallF, vcallH, uls, HdelK, memN, noBox, ninL, keysH, jsAt, AdSub, adopt, noEl, isNil, effL, effO, vopsD, vquiet, vfstD, ldq, ldOk, vops, vfst, vone, vact, ug, addL, vbox, valloc, vstore, vbuild, arrF, vbuildSlice, vappend, vmake, zeroS, zeroE, vstrB, apC, nrm, nr1, nrL, keyL, neqs, diffs, V.app, V.len, vsrc, vdst, mkSl, mkBy, inOrd, placeAll, V.one, V.sto, V.csize, V.parts, V.cellsL, setMany, V.setB, V.setE, V.setO, V.noOwn, V.isOwn, vq, vcall, fzA, fz, fz1, fzL, fzN, rts, rt1, V.er, er1, er2, mixA, mixK, uargs, u1, R.add, vop, vbin, vint2, vstr2, vbool2, vnum, vun, vpick, vpick1, vbool, vconv, vnil, vfieldAddr, vindexAddr, vstEq, vindex, vload, vfield, aggD, vslice, bnd, uopt, vlen, vmin, vextract, Hpk, Hroot, refV, ownR, V.i, V.elems, V.cell, V.cut, V.exact, V.ex0, exL, V.cl, clL, V.sc, scL, scO, scH, V.ct, ct1, ct2, RetP, RetK, RetH, retL, retOne, Back, Veq, subH, obs, obsIf, En.get, En.put, En.ev, enOf, gcond, wantB, constV, exGet, subE, Sub, RV, RVL, NR, RO, subER, subHR, newLt, oldNe, oldOk, oldGe, notIn, ivN, lookN, SubR, Nm.root, Nat.reduceMul, Nat.reduceLeDiff, Nat.reduceEqDiff, Nat.reduceLT, Nat.reduceAdd, Nat.reduceSub, ↓reduceIte, implies_true, reduceCtorEq, ne_eq, ↓shr_eq, IntKind.bits, Int.reduceToNat, Int.reducePow, dite_eq_ite, Value.oneCell', Nat.reduceBEq, Nat.reduceDiv, bnS, bnN, bnT, jsB, JK, JKf, ndsV, ndD, jdf, ← hn, unN_nds]
      refine ⟨by omega, by omega, fun h5 => ?_, fun h5 => ?_⟩
      · simp only [Bool.and_eq_true, decide_eq_true_eq] at h5
        obtain ⟨q, hq⟩ : ∃ q, n.kids.toNat - i = q + 1 := ⟨n.kids.toNat - i - 1, by omega⟩
        have hq2 : n.kids.toNat - (i + 1) = q := by omega
        rw [hq] at q3 q4
        obtain ⟨r1, s1, s2, s3, s4, s5⟩ := takeK_one (take1_goes plainF_kids d o) q3
        have hT : tkF v d o k = ((v.length - r1.length : Nat) : Int) := by
          unfold tkF
          rw [s1, posF]; omega
        rw [kdF, s1, List.length_drop, show (v.length : Int) - (v.length - k : Nat) = k from by omega] at q4
        rw [hT]
        refine ⟨by rw [List.length_append, List.length_singleton]; omega, hv, by omega, by rw [s1]; rfl, by constructor <;> omega, Again.intro (i + 1, v.length - r1.length, ks ++ [(v.getD k default).key], L ++ [(k : Int)], m + 2) ⟨by simp only; omega, by simp only; omega, by simp only; rw [hq2, s4]; exact s5, by simp only; rw [hq2, s4, List.append_assoc]; exact q4, by simp [q5]⟩ (by simp only; omega) ?_⟩
        simp only [eqC, vlook, vmark, seqN, sameBox, boxJs, vquietR, vopsR, RetC, retW, cellR, undV, vgA, vbinN, vnn, isNilC, isIf, vconvH, vconvO, cvOk, frz1, frzE, jsOk, jsCo, rowsH, vgcH, vgH, vopsT, stepE, Kseq_app, vg_skip, vg_label, vg_seq, vg_region, vg_cond, vg_block, vg_exit, vg_ret, vg_loop, vcallF, vcallH, uls, HdelK, memN, noBox, ninL, keysH, jsAt, AdSub, adopt, noEl, isNil, effL, effO, vopsD, vquiet, vfstD, ldq, ldOk, vops, vfst, vone, vact, ug, addL, vbox, valloc, vstore, vbuild, arrF, vbuildSlice, vappend, vmake, zeroS, zeroE, vstrB, apC, nrm, nr1, nrL, keyL, neqs, diffs, V.app, V.len, vsrc, vdst, mkSl, mkBy, inOrd, placeAll, V.one, V.sto, V.csize, V.parts, V.cellsL, setMany, V.setB, V.setE, V.setO, V.noOwn, V.isOwn, vq, vcall, fzA, fz, fz1, fzL, fzN, rts, rt1, V.er, er1, er2, mixA, mixK, uargs, u1, R.add, vop, vbin, vint2, vstr2, vbool2, vnum, vun, vpick, vpick1, vbool, vconv, vnil, vfieldAddr, vindexAddr, vstEq, vindex, vload, vfield, aggD, vslice, bnd, uopt, vlen, vmin, vextract, Hpk, Hroot, refV, ownR, V.i, V.elems, V.cell, V.cut, V.exact, V.ex0, exL, V.cl, clL, V.sc, scL, scO, scH, V.ct, ct1, ct2, RetP, RetK, RetH, retL, retOne, Back, Veq, subH, obs, obsIf, En.get, En.put, En.ev, enOf, gcond, wantB, constV, exGet, subE, Sub, RV, RVL, NR, RO, subER, subHR, newLt, oldNe, oldOk, oldGe, notIn, ivN, lookN, SubR, Nm.root, Nat.reduceMul, Nat.reduceLeDiff, Nat.reduceEqDiff, Nat.reduceLT, Nat.reduceAdd, Nat.reduceSub, ↓reduceIte, implies_true, reduceCtorEq, ne_eq, ↓shr_eq, IntKind.bits, Int.reduceToNat, Int.reducePow, dite_eq_ite, Value.oneCell', Nat.reduceBEq, Nat.reduceDiv, bnS, bnN, bnT, jsB, ndsV, ndD]
        omega
      · simp only [Bool.and_eq_false_iff, decide_eq_false_iff_not] at h5
        have hz : n.kids.toNat - i = 0 := by
          rcases h5 with (h5 | h5) | h5
          · omega
          · omega
          · cases hz : n.kids.toNat - i with
            | zero => rfl
            | succ q => rw [hz] at q3; have := (takeK_one (take1_goes plainF_kids d o) q3).choose_spec.2.1; omega
        rw [hz, kdF, List.append_nil] at q4
        refine RenC.intro [(0, m)] ⟨[(4, .ro (.r 0))], [(0, .row 3 (.sq 1 (.i 0) (nums .i64 rr)))], 1⟩ ?_ ?_
        · simp only [eqC, vlook, vmark, seqN, sameBox, boxJs, vquietR, vopsR, RetC, retW, cellR, undV, vgA, vbinN, vnn, isNilC, isIf, vconvH, vconvO, cvOk, frz1, frzE, jsOk, jsCo, rowsH, vgcH, vgH, vopsT, stepE, Kseq_app, vg_skip, vg_label, vg_seq, vg_region, vg_cond, vg_block, vg_exit, vg_ret, vg_loop, vcallF, vcallH, uls, HdelK, memN, noBox, ninL, keysH, jsAt, AdSub, adopt, noEl, isNil, effL, effO, vopsD, vquiet, vfstD, ldq, ldOk, vops, vfst, vone, vact, ug, addL, vbox, valloc, vstore, vbuild, arrF, vbuildSlice, vappend, vmake, zeroS, zeroE, vstrB, apC, nrm, nr1, nrL, keyL, neqs, diffs, V.app, V.len, vsrc, vdst, mkSl, mkBy, inOrd, placeAll, V.one, V.sto, V.csize, V.parts, V.cellsL, setMany, V.setB, V.setE, V.setO, V.noOwn, V.isOwn, vq, vcall, fzA, fz, fz1, fzL, fzN, rts, rt1, V.er, er1, er2, mixA, mixK, uargs, u1, R.add, vop, vbin, vint2, vstr2, vbool2, vnum, vun, vpick, vpick1, vbool, vconv, vnil, vfieldAddr, vindexAddr, vstEq, vindex, vload, vfield, aggD, vslice, bnd, uopt, vlen, vmin, vextract, Hpk, Hroot, refV, ownR, V.i, V.elems, V.cell, V.cut, V.exact, V.ex0, exL, V.cl, clL, V.sc, scL, scO, scH, V.ct, ct1, ct2, RetP, RetK, RetH, retL, retOne, Back, Veq, subH, obs, obsIf, En.get, En.put, En.ev, enOf, gcond, wantB, constV, exGet, subE, Sub, RV, RVL, NR, RO, subER, subHR, newLt, oldNe, oldOk, oldGe, notIn, ivN, lookN, SubR, Nm.root, Nat.reduceMul, Nat.reduceLeDiff, Nat.reduceEqDiff, Nat.reduceLT, Nat.reduceAdd, Nat.reduceSub, ↓reduceIte, implies_true, reduceCtorEq, ne_eq, ↓shr_eq, IntKind.bits, Int.reduceToNat, Int.reducePow, dite_eq_ite, Value.oneCell', Nat.reduceBEq, Nat.reduceDiv, bnS, bnN, bnT, jsB]
          rw [q4]
          exact ⟨rfl, .inl (Nat.zero_le _)⟩
        · simp only [eqC, vlook, vmark, seqN, sameBox, boxJs, vquietR, vopsR, RetC, retW, cellR, undV, vgA, vbinN, vnn, isNilC, isIf, vconvH, vconvO, cvOk, frz1, frzE, jsOk, jsCo, rowsH, vgcH, vgH, vopsT, stepE, Kseq_app, vg_skip, vg_label, vg_seq, vg_region, vg_cond, vg_block, vg_exit, vg_ret, vg_loop, vcallF, vcallH, uls, HdelK, memN, noBox, ninL, keysH, jsAt, AdSub, adopt, noEl, isNil, effL, effO, vopsD, vquiet, vfstD, ldq, ldOk, vops, vfst, vone, vact, ug, addL, vbox, valloc, vstore, vbuild, arrF, vbuildSlice, vappend, vmake, zeroS, zeroE, vstrB, apC, nrm, nr1, nrL, keyL, neqs, diffs, V.app, V.len, vsrc, vdst, mkSl, mkBy, inOrd, placeAll, V.one, V.sto, V.csize, V.parts, V.cellsL, setMany, V.setB, V.setE, V.setO, V.noOwn, V.isOwn, vq, vcall, fzA, fz, fz1, fzL, fzN, rts, rt1, V.er, er1, er2, mixA, mixK, uargs, u1, R.add, vop, vbin, vint2, vstr2, vbool2, vnum, vun, vpick, vpick1, vbool, vconv, vnil, vfieldAddr, vindexAddr, vstEq, vindex, vload, vfield, aggD, vslice, bnd, uopt, vlen, vmin, vextract, Hpk, Hroot, refV, ownR, V.i, V.elems, V.cell, V.cut, V.exact, V.ex0, exL, V.cl, clL, V.sc, scL, scO, scH, V.ct, ct1, ct2, RetP, RetK, RetH, retL, retOne, Back, Veq, subH, obs, obsIf, En.get, En.put, En.ev, enOf, gcond, wantB, constV, exGet, subE, Sub, RV, RVL, NR, RO, subER, subHR, newLt, oldNe, oldOk, oldGe, notIn, ivN, lookN, SubR, Nm.root, Nat.reduceMul, Nat.reduceLeDiff, Nat.reduceEqDiff, Nat.reduceLT, Nat.reduceAdd, Nat.reduceSub, ↓reduceIte, implies_true, reduceCtorEq, ne_eq, ↓shr_eq, IntKind.bits, Int.reduceToNat, Int.reducePow, dite_eq_ite, Value.oneCell', Nat.reduceBEq, Nat.reduceDiv, bnS, bnN, bnT, jsB]
theorem rKids_fn (J : Inv) (v : List Nd) (a d : Nat) (o : Bool) (hv : Few v) (ha : a < v.length) (ns : List (List UInt8)) (r : List Nd) (hk0 : 0 ≤ (v.getD a default).kids) (hr : takeK (take1 plainF Lib.validD d o) o (v.getD a default).kids.toNat ns (v.drop (a + 1)) = some r) :
    Fn Tryd.prog J 17 true [ndsV v, .i a] (.sq 1 (.i 0) (nums .i64 (kdF v.length (take1 plainF Lib.validD d o) (v.getD a default).kids.toNat (v.drop (a + 1))))) := by
  refine Fn.of_H (rKids_own J v a d o hv ha ns r hk0 hr) ?_ ?_ ?_ ?_ ?_
  · simp only [eqC, vlook, vmark, seqN, sameBox, boxJs, vquietR, vopsR, RetC, retW, cellR, undV, vgA, vbinN, vnn, isNilC, isIf, vconvH, vconvO, cvOk, frz1, frzE, jsOk, jsCo, rowsH, vgcH, vgH, vopsT, stepE, Kseq_app, vg_skip, vg_label, vg_seq, vg_region, vg_cond, vg_block, vg_exit, vg_ret, vg_loop, vcallF, vcallH, uls, HdelK, memN, noBox, ninL, keysH, jsAt, AdSub, adopt, noEl, isNil, effL, effO, vopsD, vquiet, vfstD, ldq, ldOk, vops, vfst, vone, vact, ug, addL, vbox, valloc, vstore, vbuild, arrF, vbuildSlice, vappend, vmake, zeroS, zeroE, vstrB, apC, nrm, nr1, nrL, keyL, neqs, diffs, V.app, V.len, vsrc, vdst, mkSl, mkBy, inOrd, placeAll, V.one, V.sto, V.csize, V.parts, V.cellsL, setMany, V.setB, V.setE, V.setO, V.noOwn, V.isOwn, vq, vcall, fzA, fz, fz1, fzL, fzN, rts, rt1, V.er, er1, er2, mixA, mixK, uargs, u1, R.add, vop, vbin, vint2, vstr2, vbool2, vnum, vun, vpick, vpick1, vbool, vconv, vnil, vfieldAddr, vindexAddr, vstEq, vindex, vload, vfield, aggD, vslice, bnd, uopt, vlen, vmin, vextract, Hpk, Hroot, refV, ownR, V.i, V.elems, V.cell, V.cut, V.exact, V.ex0, exL, V.cl, clL, V.sc, scL, scO, scH, V.ct, ct1, ct2, RetP, RetK, RetH, retL, retOne, Back, Veq, subH, obs, obsIf, En.get, En.put, En.ev, enOf, gcond, wantB, constV, exGet, subE, Sub, RV, RVL, NR, RO, subER, subHR, newLt, oldNe, oldOk, oldGe, notIn, ivN, lookN, SubR, Nm.root, Nat.reduceMul, Nat.reduceLeDiff, Nat.reduceEqDiff, Nat.reduceLT, Nat.reduceAdd, Nat.reduceSub, ↓reduceIte, implies_true, reduceCtorEq, ne_eq, ↓shr_eq, IntKind.bits, Int.reduceToNat, Int.reducePow, dite_eq_ite, Value.oneCell', Nat.reduceBEq, Nat.reduceDiv, bnS, bnN, bnT, jsB]
  · exact fun p hp => by simp [fz, fz1, Hpk, Hroot] at hp
  · simp only [eqC, vlook, vmark, seqN, sameBox, boxJs, vquietR, vopsR, RetC, retW, cellR, undV, vgA, vbinN, vnn, isNilC, isIf, vconvH, vconvO, cvOk, frz1, frzE, jsOk, jsCo, rowsH, vgcH, vgH, vopsT, stepE, Kseq_app, vg_skip, vg_label, vg_seq, vg_region, vg_cond, vg_block, vg_exit, vg_ret, vg_loop, vcallF, vcallH, uls, HdelK, memN, noBox, ninL, keysH, jsAt, AdSub, adopt, noEl, isNil, effL, effO, vopsD, vquiet, vfstD, ldq, ldOk, vops, vfst, vone, vact, ug, addL, vbox, valloc, vstore, vbuild, arrF, vbuildSlice, vappend, vmake, zeroS, zeroE, vstrB, apC, nrm, nr1, nrL, keyL, neqs, diffs, V.app, V.len, vsrc, vdst, mkSl, mkBy, inOrd, placeAll, V.one, V.sto, V.csize, V.parts, V.cellsL, setMany, V.setB, V.setE, V.setO, V.noOwn, V.isOwn, vq, vcall, fzA, fz, fz1, fzL, fzN, rts, rt1, V.er, er1, er2, mixA, mixK, uargs, u1, R.add, vop, vbin, vint2, vstr2, vbool2, vnum, vun, vpick, vpick1, vbool, vconv, vnil, vfieldAddr, vindexAddr, vstEq, vindex, vload, vfield, aggD, vslice, bnd, uopt, vlen, vmin, vextract, Hpk, Hroot, refV, ownR, V.i, V.elems, V.cell, V.cut, V.exact, V.ex0, exL, V.cl, clL, V.sc, scL, scO, scH, V.ct, ct1, ct2, RetP, RetK, RetH, retL, retOne, Back, Veq, subH, obs, obsIf, En.get, En.put, En.ev, enOf, gcond, wantB, constV, exGet, subE, Sub, RV, RVL, NR, RO, subER, subHR, newLt, oldNe, oldOk, oldGe, notIn, ivN, lookN, SubR, Nm.root, Nat.reduceMul, Nat.reduceLeDiff, Nat.reduceEqDiff, Nat.reduceLT, Nat.reduceAdd, Nat.reduceSub, ↓reduceIte, implies_true, reduceCtorEq, ne_eq, ↓shr_eq, IntKind.bits, Int.reduceToNat, Int.reducePow, dite_eq_ite, Value.oneCell', Nat.reduceBEq, Nat.reduceDiv, bnS, bnN, bnT, jsB]
  · simp only [eqC, vlook, vmark, seqN, sameBox, boxJs, vquietR, vopsR, RetC, retW, cellR, undV, vgA, vbinN, vnn, isNilC, isIf, vconvH, vconvO, cvOk, frz1, frzE, jsOk, jsCo, rowsH, vgcH, vgH, vopsT, stepE, Kseq_app, vg_skip, vg_label, vg_seq, vg_region, vg_cond, vg_block, vg_exit, vg_ret, vg_loop, vcallF, vcallH, uls, HdelK, memN, noBox, ninL, keysH, jsAt, AdSub, adopt, noEl, isNil, effL, effO, vopsD, vquiet, vfstD, ldq, ldOk, vops, vfst, vone, vact, ug, addL, vbox, valloc, vstore, vbuild, arrF, vbuildSlice, vappend, vmake, zeroS, zeroE, vstrB, apC, nrm, nr1, nrL, keyL, neqs, diffs, V.app, V.len, vsrc, vdst, mkSl, mkBy, inOrd, placeAll, V.one, V.sto, V.csize, V.parts, V.cellsL, setMany, V.setB, V.setE, V.setO, V.noOwn, V.isOwn, vq, vcall, fzA, fz, fz1, fzL, fzN, rts, rt1, V.er, er1, er2, mixA, mixK, uargs, u1, R.add, vop, vbin, vint2, vstr2, vbool2, vnum, vun, vpick, vpick1, vbool, vconv, vnil, vfieldAddr, vindexAddr, vstEq, vindex, vload, vfield, aggD, vslice, bnd, uopt, vlen, vmin, vextract, Hpk, Hroot, refV, ownR, V.i, V.elems, V.cell, V.cut, V.exact, V.ex0, exL, V.cl, clL, V.sc, scL, scO, scH, V.ct, ct1, ct2, RetP, RetK, RetH, retL, retOne, Back, Veq, subH, obs, obsIf, En.get, En.put, En.ev, enOf, gcond, wantB, constV, exGet, subE, Sub, RV, RVL, NR, RO, subER, subHR, newLt, oldNe, oldOk, oldGe, notIn, ivN, lookN, SubR, Nm.root, Nat.reduceMul, Nat.reduceLeDiff, Nat.reduceEqDiff, Nat.reduceLT, Nat.reduceAdd, Nat.reduceSub, ↓reduceIte, implies_true, reduceCtorEq, ne_eq, ↓shr_eq, IntKind.bits, Int.reduceToNat, Int.reducePow, dite_eq_ite, Value.oneCell', Nat.reduceBEq, Nat.reduceDiv, bnS, bnN, bnT, jsB]
  · simp only [eqC, vlook, vmark, seqN, sameBox, boxJs, vquietR, vopsR, RetC, retW, cellR, undV, vgA, vbinN, vnn, isNilC, isIf, vconvH, vconvO, cvOk, frz1, frzE, jsOk, jsCo, rowsH, vgcH, vgH, vopsT, stepE, Kseq_app, vg_skip, vg_label, vg_seq, vg_region, vg_cond, vg_block, vg_exit, vg_ret, vg_loop, vcallF, vcallH, uls, HdelK, memN, noBox, ninL, keysH, jsAt, AdSub, adopt, noEl, isNil, effL, effO, vopsD, vquiet, vfstD, ldq, ldOk, vops, vfst, vone, vact, ug, addL, vbox, valloc, vstore, vbuild, arrF, vbuildSlice, vappend, vmake, zeroS, zeroE, vstrB, apC, nrm, nr1, nrL, keyL, neqs, diffs, V.app, V.len, vsrc, vdst, mkSl, mkBy, inOrd, placeAll, V.one, V.sto, V.csize, V.parts, V.cellsL, setMany, V.setB, V.setE, V.setO, V.noOwn, V.isOwn, vq, vcall, fzA, fz, fz1, fzL, fzN, rts, rt1, V.er, er1, er2, mixA, mixK, uargs, u1, R.add, vop, vbin, vint2, vstr2, vbool2, vnum, vun, vpick, vpick1, vbool, vconv, vnil, vfieldAddr, vindexAddr, vstEq, vindex, vload, vfield, aggD, vslice, bnd, uopt, vlen, vmin, vextract, Hpk, Hroot, refV, ownR, V.i, V.elems, V.cell, V.cut, V.exact, V.ex0, exL, V.cl, clL, V.sc, scL, scO, scH, V.ct, ct1, ct2, RetP, RetK, RetH, retL, retOne, Back, Veq, subH, obs, obsIf, En.get, En.put, En.ev, enOf, gcond, wantB, constV, exGet, subE, Sub, RV, RVL, NR, RO, subER, subHR, newLt, oldNe, oldOk, oldGe, notIn, ivN, lookN, SubR, Nm.root, Nat.reduceMul, Nat.reduceLeDiff, Nat.reduceEqDiff, Nat.reduceLT, Nat.reduceAdd, Nat.reduceSub, ↓reduceIte, implies_true, reduceCtorEq, ne_eq, ↓shr_eq, IntKind.bits, Int.reduceToNat, Int.reducePow, dite_eq_ite, Value.oneCell', Nat.reduceBEq, Nat.reduceDiv, bnS, bnN, bnT, jsB, scH, scO]
def JMm (d : Nat) (o : Bool) (v : List Nd) (a : Nat) : FuncId → List V → Option (List Prop × Bool × V) := fun f args =>
  if f = 17 then match args with
    | [.sq 6 dd L, .val (.int .i64 a')] => some ([dd = ndD, L = nds v, a' = a], true, .sq 1 (.i 0) (nums .i64 (kdF v.length (take1 plainF Lib.validD d o) (v.getD a default).kids.toNat (v.drop (a + 1)))))
    | _ => none
  else none
def JMr (J : Inv) (d : Nat) (o : Bool) (v : List Nd) (a : Nat) : Sig := ⟨J, jdf, JMm d o v a, noH, 0⟩
theorem JMr_ok (J : Inv) (v : List Nd) (a d : Nat) (o : Bool) (hv : Few v) (ha : a < v.length) (ns : List (List UInt8)) (r : List Nd) (hk0 : 0 ≤ (v.getD a default).kids) (hr : takeK (take1 plainF Lib.validD d o) o (v.getD a default).kids.toNat ns (v.drop (a + 1)) = some r) : SigOk Tryd.prog (JMr J d o v a) := by
  refine .plain fun f args l fr r' h hl => ?_
  change JMm d o v a f args = some (l, fr, r') at h
  unfold JMm at h
  split at h
  · rename_i hf; subst hf
    split at h
    · rename_i dd L a'
      obtain ⟨rfl, rfl, rfl⟩ := jsome_tri h
      have h1 : dd = ndD := hl _ (by simp)
      have h2 : L = nds v := hl _ (by simp)
      have h3 : a' = a := hl _ (by simp)
      subst h1 h2 h3
      exact rKids_fn J v a d o hv ha ns r hk0 hr
    · exact absurd h (by simp)
  · exact absurd h (by simp)
/-- A walk over the places of the kids finds what a walk over the kids finds. -/
def fiK (v : List Nd) (key : List UInt8) : List Int → Int
  | [] => -1
  | p :: r => if (v.getD p.toNat default).key = key then p else fiK v key r
theorem fiK_memF {t1 : List Nd → Option (List Nd)} (ht : Goes t1) (key : List UInt8) {obj : Bool} : ∀ {q : Nat} {ns : List (List UInt8)} {v r : List Nd} {k : Nat}, takeK t1 obj q ns (v.drop k) = some r →
    fiK v key (kdF v.length t1 q (v.drop k)) = posF v (memF t1 key q (v.drop k)) ∧ ∀ p ∈ kdF v.length t1 q (v.drop k), 0 ≤ p ∧ p < v.length
  | 0, _, _, _, _, _ => ⟨rfl, fun p hp => by cases hp⟩
  | q + 1, ns, v, r, k, h => by
    obtain ⟨r1, s1, s2, s3, s4, s5⟩ := takeK_one ht h
    rw [← s4] at s5
    obtain ⟨i1, i2⟩ := fiK_memF ht key s5
    rw [s4] at i1 i2
    rw [kdF, s1, List.length_drop, show (v.length : Int) - (v.length - k : Nat) = k from by omega]
    simp only
    refine ⟨?_, fun p hp => ?_⟩
    · rw [fiK, i1, Int.toNat_natCast]
      have hm : memF t1 key (q + 1) (v.drop k) = if (v.getD k default).key = key then some (v.drop k) else match t1 (v.drop k) with
          | none => none
          | some r => memF t1 key q r := by
        rw [nd_drop s2]; rfl
      rw [hm, s1]
      split
      · simp only [posF, List.length_drop]; omega
      · rfl
    · rcases List.mem_cons.1 hp with rfl | hp
      · omega
      · exact i2 p hp
theorem rMember_fn (J : Inv) (v : List Nd) (a d : Nat) (key : List UInt8) (hv : Few v) (ha : a < v.length) (ns : List (List UInt8)) (r : List Nd) (h7 : (v.getD a default).kind = 7) (hr : takeK (take1 plainF Lib.validD d true) true (v.getD a default).kids.toNat ns (v.drop (a + 1)) = some r) :
    Fn Tryd.prog J 12 false [ndsV v, .i a, .str key] (.i (posF v (memF (take1 plainF Lib.validD d true) key (v.getD a default).kids.toNat (v.drop (a + 1))))) := by
  have hl := hv.1
  obtain ⟨k0, k1⟩ := hv.at ha
  obtain ⟨f1, f2⟩ := fiK_memF (take1_goes plainF_kids d true) key hr
  have f3 := kdF_len v.length hr
  have hJ := JMr_ok J v a d true hv ha ns r k0 hr
  rw [← f1]
  refine fn_intro Tryd.func12 rfl (by kernel_rfl) (Nat.le_of_ble_eq_true (by kernel_rfl)) (by kernel_rfl) (by kernel_rfl) rfl hJ ?_
  unfold Tryd.f12
  generalize hK : kdF v.length (take1 plainF Lib.validD d true) (v.getD a default).kids.toNat (v.drop (a + 1)) = K at *
  simp only [eqC, vlook, vmark, seqN, sameBox, boxJs, vquietR, vopsR, RetC, retW, cellR, undV, vgA, vbinN, vnn, isNilC, isIf, vconvH, vconvO, cvOk, frz1, frzE, jsOk, jsCo, rowsH, vgcH, vgH, vopsT, stepE, Kseq_app, vg_skip, vg_label, vg_seq, vg_region, vg_cond, vg_block, vg_exit, vg_ret, vg_loop, vcallF, vcallH, uls, HdelK, memN, noBox, ninL, keysH, jsAt, AdSub, adopt, noEl, isNil, effL, effO, vopsD, vquiet, vfstD, ldq, ldOk, vops, vfst, vone, vact, ug, addL, vbox, valloc, vstore, vbuild, arrF, vbuildSlice, vappend, vmake, zeroS, zeroE, vstrB, apC, nrm, nr1, nrL, keyL, neqs, diffs, V.app, V.len, vsrc, vdst, mkSl, mkBy, inOrd, placeAll, V.one, V.sto, V.csize, V.parts, V.cellsL, setMany, V.setB, V.setE, V.setO, V.noOwn, V.isOwn, vq, vcall, fzA, fz, fz1, fzL, fzN, rts, rt1, V.er, er1, er2, mixA, mixK, uargs, u1, R.add, vop, vbin, vint2, vstr2, vbool2, vnum, vun, vpick, vpick1, vbool, vconv, vnil, vfieldAddr, vindexAddr, vstEq, vindex, vload, vfield, aggD, vslice, bnd, uopt, vlen, vmin, vextract, Hpk, Hroot, refV, ownR, V.i, V.elems, V.cell, V.cut, V.exact, V.ex0, exL, V.cl, clL, V.sc, scL, scO, scH, V.ct, ct1, ct2, RetP, RetK, RetH, retL, retOne, Back, Veq, subH, obs, obsIf, En.get, En.put, En.ev, enOf, gcond, wantB, constV, exGet, subE, Sub, RV, RVL, NR, RO, subER, subHR, newLt, oldNe, oldOk, oldGe, notIn, ivN, lookN, SubR, Nm.root, Nat.reduceMul, Nat.reduceLeDiff, Nat.reduceEqDiff, Nat.reduceLT, Nat.reduceAdd, Nat.reduceSub, ↓reduceIte, implies_true, reduceCtorEq, ne_eq, ↓shr_eq, IntKind.bits, Int.reduceToNat, Int.reducePow, dite_eq_ite, Value.oneCell', Nat.reduceBEq, Nat.reduceDiv, bnS, bnN, bnT, jsB, JMr, JMm, ndsV, ndD, jdf, hK]
  refine ⟨fun _ => by omega, fun _ => by omega, fun h => ?_, fun _ => ?_⟩
  · rw [h7] at h
    simp at h
    omega
  · refine LoopC.intro (α := Nat) (fun i => i ≤ K.length ∧ fiK v key (K.drop i) = fiK v key K) (fun i => ⟨[(0, ndsV v), (1, .i a), (2, .str key), (7, .sq 1 (.i 0) (nums .i64 K)), (8, .i i)], [], 0⟩) (fun i => K.length - i) 0 ⟨Nat.zero_le _, rfl⟩ ?_ ?_
    · simp only [eqC, vlook, vmark, seqN, sameBox, boxJs, vquietR, vopsR, RetC, retW, cellR, undV, vgA, vbinN, vnn, isNilC, isIf, vconvH, vconvO, cvOk, frz1, frzE, jsOk, jsCo, rowsH, vgcH, vgH, vopsT, stepE, Kseq_app, vg_skip, vg_label, vg_seq, vg_region, vg_cond, vg_block, vg_exit, vg_ret, vg_loop, vcallF, vcallH, uls, HdelK, memN, noBox, ninL, keysH, jsAt, AdSub, adopt, noEl, isNil, effL, effO, vopsD, vquiet, vfstD, ldq, ldOk, vops, vfst, vone, vact, ug, addL, vbox, valloc, vstore, vbuild, arrF, vbuildSlice, vappend, vmake, zeroS, zeroE, vstrB, apC, nrm, nr1, nrL, keyL, neqs, diffs, V.app, V.len, vsrc, vdst, mkSl, mkBy, inOrd, placeAll, V.one, V.sto, V.csize, V.parts, V.cellsL, setMany, V.setB, V.setE, V.setO, V.noOwn, V.isOwn, vq, vcall, fzA, fz, fz1, fzL, fzN, rts, rt1, V.er, er1, er2, mixA, mixK, uargs, u1, R.add, vop, vbin, vint2, vstr2, vbool2, vnum, vun, vpick, vpick1, vbool, vconv, vnil, vfieldAddr, vindexAddr, vstEq, vindex, vload, vfield, aggD, vslice, bnd, uopt, vlen, vmin, vextract, Hpk, Hroot, refV, ownR, V.i, V.elems, V.cell, V.cut, V.exact, V.ex0, exL, V.cl, clL, V.sc, scL, scO, scH, V.ct, ct1, ct2, RetP, RetK, RetH, retL, retOne, Back, Veq, subH, obs, obsIf, En.get, En.put, En.ev, enOf, gcond, wantB, constV, exGet, subE, Sub, RV, RVL, NR, RO, subER, subHR, newLt, oldNe, oldOk, oldGe, notIn, ivN, lookN, SubR, Nm.root, Nat.reduceMul, Nat.reduceLeDiff, Nat.reduceEqDiff, Nat.reduceLT, Nat.reduceAdd, Nat.reduceSub, ↓reduceIte, implies_true, reduceCtorEq, ne_eq, ↓shr_eq, IntKind.bits, Int.reduceToNat, Int.reducePow, dite_eq_ite, Value.oneCell', Nat.reduceBEq, Nat.reduceDiv, bnS, bnN, bnT, jsB, ndsV, ndD]
      rfl
    · rintro i ⟨q1, q2⟩
      simp only [eqC, vlook, vmark, seqN, sameBox, boxJs, vquietR, vopsR, RetC, retW, cellR, undV, vgA, vbinN, vnn, isNilC, isIf, vconvH, vconvO, cvOk, frz1, frzE, jsOk, jsCo, rowsH, vgcH, vgH, vopsT, stepE, Kseq_app, vg_skip, vg_label, vg_seq, vg_region, vg_cond, vg_block, vg_exit, vg_ret, vg_loop, vcallF, vcallH, uls, HdelK, memN, noBox, ninL, keysH, jsAt, AdSub, adopt, noEl, isNil, effL, effO, vopsD, vquiet, vfstD, ldq, ldOk, vops, vfst, vone, vact, ug, addL, vbox, valloc, vstore, vbuild, arrF, vbuildSlice, vappend, vmake, zeroS, zeroE, vstrB, apC, nrm, nr1, nrL, keyL, neqs, diffs, V.app, V.len, vsrc, vdst, mkSl, mkBy, inOrd, placeAll, V.one, V.sto, V.csize, V.parts, V.cellsL, setMany, V.setB, V.setE, V.setO, V.noOwn, V.isOwn, vq, vcall, fzA, fz, fz1, fzL, fzN, rts, rt1, V.er, er1, er2, mixA, mixK, uargs, u1, R.add, vop, vbin, vint2, vstr2, vbool2, vnum, vun, vpick, vpick1, vbool, vconv, vnil, vfieldAddr, vindexAddr, vstEq, vindex, vload, vfield, aggD, vslice, bnd, uopt, vlen, vmin, vextract, Hpk, Hroot, refV, ownR, V.i, V.elems, V.cell, V.cut, V.exact, V.ex0, exL, V.cl, clL, V.sc, scL, scO, scH, V.ct, ct1, ct2, RetP, RetK, RetH, retL, retOne, Back, Veq, subH, obs, obsIf, En.get, En.put, En.ev, enOf, gcond, wantB, constV, exGet, subE, Sub, RV, RVL, NR, RO, subER, subHR, newLt, oldNe, oldOk, oldGe, notIn, ivN, lookN, SubR, Nm.root, Nat.reduceMul, Nat.reduceLeDiff, Nat.reduceEqDiff, Nat.reduceLT, Nat.reduceAdd, Nat.reduceSub, ↓reduceIte, implies_true, reduceCtorEq, ne_eq, ↓shr_eq, IntKind.bits, Int.reduceToNat, Int.reducePow, dite_eq_ite, Value.oneCell', Nat.reduceBEq, Nat.reduceDiv, bnS, bnN, bnT, jsB, JMr, JMm, ndsV, ndD, jdf, hK]
      refine ⟨fun h5 => ?_, fun h5 => ?_⟩
      · simp only [decide_eq_true_eq] at h5
        have hi : i < K.length := by omega
        have hg : K.getD i 0 = K[i] := by rw [List.getD_eq_getElem?_getD, List.getElem?_eq_getElem hi, Option.getD_some]
        have hb := f2 _ (List.getElem_mem hi)
        rw [List.drop_eq_getElem_cons hi, ← hg, fiK] at q2
        rw [← hg] at hb
        refine ⟨by omega, by omega, hb.1, hb.2, fun h6 => ⟨by omega, by omega, ?_⟩, fun h6 => ⟨by constructor <;> omega, Again.intro (i + 1) ⟨by omega, ?_⟩ (by omega) ?_⟩⟩
        · rw [if_pos (by simpa using h6)] at q2
          exact q2
        · rw [if_neg (by simpa using h6)] at q2
          exact q2
        · simp only [eqC, vlook, vmark, seqN, sameBox, boxJs, vquietR, vopsR, RetC, retW, cellR, undV, vgA, vbinN, vnn, isNilC, isIf, vconvH, vconvO, cvOk, frz1, frzE, jsOk, jsCo, rowsH, vgcH, vgH, vopsT, stepE, Kseq_app, vg_skip, vg_label, vg_seq, vg_region, vg_cond, vg_block, vg_exit, vg_ret, vg_loop, vcallF, vcallH, uls, HdelK, memN, noBox, ninL, keysH, jsAt, AdSub, adopt, noEl, isNil, effL, effO, vopsD, vquiet, vfstD, ldq, ldOk, vops, vfst, vone, vact, ug, addL, vbox, valloc, vstore, vbuild, arrF, vbuildSlice, vappend, vmake, zeroS, zeroE, vstrB, apC, nrm, nr1, nrL, keyL, neqs, diffs, V.app, V.len, vsrc, vdst, mkSl, mkBy, inOrd, placeAll, V.one, V.sto, V.csize, V.parts, V.cellsL, setMany, V.setB, V.setE, V.setO, V.noOwn, V.isOwn, vq, vcall, fzA, fz, fz1, fzL, fzN, rts, rt1, V.er, er1, er2, mixA, mixK, uargs, u1, R.add, vop, vbin, vint2, vstr2, vbool2, vnum, vun, vpick, vpick1, vbool, vconv, vnil, vfieldAddr, vindexAddr, vstEq, vindex, vload, vfield, aggD, vslice, bnd, uopt, vlen, vmin, vextract, Hpk, Hroot, refV, ownR, V.i, V.elems, V.cell, V.cut, V.exact, V.ex0, exL, V.cl, clL, V.sc, scL, scO, scH, V.ct, ct1, ct2, RetP, RetK, RetH, retL, retOne, Back, Veq, subH, obs, obsIf, En.get, En.put, En.ev, enOf, gcond, wantB, constV, exGet, subE, Sub, RV, RVL, NR, RO, subER, subHR, newLt, oldNe, oldOk, oldGe, notIn, ivN, lookN, SubR, Nm.root, Nat.reduceMul, Nat.reduceLeDiff, Nat.reduceEqDiff, Nat.reduceLT, Nat.reduceAdd, Nat.reduceSub, ↓reduceIte, implies_true, reduceCtorEq, ne_eq, ↓shr_eq, IntKind.bits, Int.reduceToNat, Int.reducePow, dite_eq_ite, Value.oneCell', Nat.reduceBEq, Nat.reduceDiv, bnS, bnN, bnT, jsB, ndsV, ndD]
          omega
      · simp only [decide_eq_false_iff_not] at h5
        rw [List.drop_eq_nil_of_le (by omega)] at q2
        rw [← q2]
        rfl
end Go.Proofs.YtbjfhnbgiajnjaaDoor
