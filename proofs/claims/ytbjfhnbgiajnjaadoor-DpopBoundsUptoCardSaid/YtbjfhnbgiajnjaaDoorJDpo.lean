/- DpopBounds: the walk. -/
import Derived.Test.YtbjfhnbgiajnjaaDoorJBo2
import Derived.Test.YtbjfhnbgiajnjaaDoorJLaw
namespace Go.Proofs.YtbjfhnbgiajnjaaDoor
open Go.RowKit
set_option linter.unusedSimpArgs false
set_option maxRecDepth 100000
def JXf (bd : List Nd → List UInt8 × Int) (bey : List Nd → Bool) : FuncId → List V → Option (List Prop × Bool × V) := fun f args =>
  if f = 4 then match args with
    | [.sq 6 dd L] => some ([dd = ndD, L = nds (unN L), Big (unN L)], false, .bb (bey (unN L)))
    | _ => none
  else if f = 6 then match args with
    | [.st [.sq 6 dd L, .str _, .bb _, .str _, .bb _, .val (.slice _ _ _), .bb _, .str _, .bb _, .bb _, .val (.int .i64 _), .bb _, .val (.int .i64 _), .bb _, .val (.int .i64 _)]] => some ([dd = ndD, L = nds (unN L), Big (unN L)], false, .tu [.str (bd (unN L)).1, .i (bd (unN L)).2])
    | _ => none
  else if f = 7 then match args with
    | [.st [.sq 6 dd L, .str _, .bb _, .str _, .bb _, .val (.slice _ _ _), .bb _, .str _, .bb _, .bb _, .val (.int .i64 _), .bb _, .val (.int .i64 _), .bb _, .val (.int .i64 _)]] => some ([dd = ndD, L = nds (unN L), Big (unN L)], false, .tu [.str (bd (unN L)).1, .i (bd (unN L)).2])
    | _ => none
  else none
def JXh (mk : List Nd) : FuncId → List V → List (Nat × Ob) → Nat → Option CallH := fun f args h nx =>
  if f = 5 then match args with
    | [v] => match (fz h v).1 with
      | .sq 6 dd L => some ⟨[dd = ndD, L = nds (unN L), Big (unN L)], [true], [], .vw (.r nx) 6 0 (unN L).length, [(nx, .row 36 (.sq 6 ndD (nds (unN L ++ mk))))], nx + 1⟩
      | _ => none
    | _ => none
  else if f = 8 then match args with
    | [.vw (.r k) 6 0 n, .sq 6 dd L] => some ⟨[dd = ndD, L = nds (unN L), Big (unN L), n = (unN L).length, Hroot h k = some (.row 36 (.sq 6 ndD (nds (unN L ++ mk))))], [false, true], [(k, .row 36 (.sq 6 ndD (nds (unN L ++ mk))))], .bb true, [(k, .row 36 (.sq 6 ndD (nds (unN L ++ mk))))], nx⟩
    | _ => none
  else none
def JX (J : Inv) (bd : List Nd → List UInt8 × Int) (bey : List Nd → Bool) (mk : List Nd) : Sig := ⟨J, jdf, JXf bd bey, JXh mk, 0⟩
def bump (n : Nd) : Nd := ⟨n.kind, n.key, n.text ++ [49], n.whole, n.int, n.kids⟩
def chF (v : List Nd) (i : Nat) : List Nd := (v.take i).map bump ++ v.drop i
theorem chF_0 (v : List Nd) : chF v 0 = v := by simp [chF]
theorem chF_len (v : List Nd) (i : Nat) : (chF v i).length = v.length := by simp [chF]; omega
theorem chF_split (mk v : List Nd) {i : Nat} (hi : i < v.length) : chF v i ++ mk = (v.take i).map bump ++ (v.getD i default :: (v.drop (i + 1) ++ mk)) := by
  rw [chF, nd_drop hi, List.append_assoc, List.cons_append]
theorem chF_at (mk v : List Nd) {i : Nat} (hi : i < v.length) : (chF v i ++ mk).getD i default = v.getD i default := by
  have hl : ((v.take i).map bump).length = i := by simp; omega
  rw [chF_split mk v hi, List.getD_eq_getElem?_getD, List.getElem?_append_right (by omega), hl, Nat.sub_self]
  rfl
theorem chF_set (mk v : List Nd) {i : Nat} (hi : i < v.length) : (chF v i ++ mk).set i (bump (v.getD i default)) = chF v (i + 1) ++ mk := by
  have hl : ((v.take i).map bump).length = i := by simp; omega
  have ht : v.take (i + 1) = v.take i ++ [v.getD i default] := by
    rw [List.getD_eq_getElem?_getD, List.getElem?_eq_getElem hi, Option.getD_some, List.take_succ_eq_append_getElem hi]
  rw [chF_split mk v hi, List.set_append_right _ _ (by omega), hl, Nat.sub_self, List.set_cons_zero, chF, ht, List.map_append, List.append_assoc, List.append_assoc]
  rfl
noncomputable def dB : Code := (Tryd.f3).body.getD .skip
noncomputable def dT : Code := jR (jR (jR (jR (jR (jR (jR dB))))))
noncomputable def dI : Code := jR (jR (jR (jL dT)))
noncomputable def d12 : Code := jR (jL (jR dI))
theorem d_eq : (Tryd.f3).body = some (.seq (jL dB) (.seq (jL (jR dB)) (.seq (jL (jR (jR dB))) (.seq (jL (jR (jR (jR dB)))) (.seq (jL (jR (jR (jR (jR dB))))) (.seq (jL (jR (jR (jR (jR (jR dB)))))) (.seq (jL (jR (jR (jR (jR (jR (jR dB))))))) (.seq (.seq (jL (jL dT)) (.block 0 (.loop (.seq (jL dI) (.seq (.block 1 d12) (jR (jR dI))))))) (jR dT))))))))) := by kernel_rfl
theorem vopsR_app {P : Program} {G : Sig} {m : List (Nat × List Nat)} {R : List Nat} {ops : List Oper} {K : S → Prop} : ∀ (a b : List (Nat × Option (Bool × List Nat))) (s : S), vopsR P G m R ops (fun s' => vopsR P G m R ops K b s') a s → vopsR P G m R ops K (a ++ b) s
  | [], _, _, h => h
  | (i, q) :: r, b, s, h => by
    rw [List.cons_append]
    simp only [vopsR] at h ⊢
    split at h
    · exact h.elim
    · split at h
      · split at h
        · rw [obs_iff] at h ⊢; exact ⟨h.1, vopsR_app r b _ h.2⟩
        · rw [obsIf_iff] at h ⊢; exact ⟨h.1, vopsR_app r b _ h.2⟩
        · exact h.elim
      · split at h
        · split at h
          · rw [obs_iff] at h ⊢; exact ⟨h.1, vopsR_app r b _ h.2⟩
          · exact h.elim
        · split at h
          · rw [obs_iff] at h ⊢; exact ⟨h.1, vopsR_app r b _ h.2⟩
          · rw [obsIf_iff] at h ⊢; exact ⟨h.1, vopsR_app r b _ h.2⟩
          · split at h
            · split at h
              · rw [obs_iff] at h ⊢; exact ⟨h.1, vopsR_app r b _ h.2⟩
              · exact h.elim
            · exact h.elim
def opsOf : Code → List Oper
  | .region _ ops _ => ops.toList
  | _ => []
theorem d12_b (J : Inv) (bd : List Nd → List UInt8 × Int) (bey : List Nd → Bool) (mk : List Nd) {E : En} {H : List (Nat × Ob)} {u : List Nd} {i n nx : Nat} {T : List UInt8} {K : S → Prop} (e58 : E.get 58 = some (.vw (.r 2) 6 0 n)) (e59 : E.get 59 = some (.i i)) (e66 : E.get 66 = some (.str T)) (h2 : Hroot H 2 = some (.row 36 (.sq 6 ndD (nds u)))) (hi : i < n) (hn : n ≤ u.length)
    (hK : ∀ E', (∀ t, t < 57 → En.get E' t = En.get E t) → K ⟨E', (2, .row 36 (.sq 6 ndD (nds (u.set i ⟨(u.getD i default).kind, (u.getD i default).key, T, (u.getD i default).whole, (u.getD i default).int, (u.getD i default).kids⟩)))) :: H, nx⟩) : vopsR Tryd.prog (JX J bd bey mk) [] [12] (opsOf d12) K [(10, some (true, [])), (11, some (true, [])), (12, none)] ⟨E, H, nx⟩ := by
  simp only [opsOf, d12, dI, dT, dB, jL, jR, Tryd.f3, Option.getD_some]
  simp only [ndD, V.i] at h2 e59
  simp only [eqC, vlook, vmark, seqN, sameBox, boxJs, vquietR, vopsR, RetC, retW, cellR, undV, vgA, vbinN, vnn, isNilC, isIf, vconvH, vconvO, cvOk, frz1, frzE, jsOk, jsCo, rowsH, vgcH, vgH, vopsT, stepE, Kseq_app, vg_skip, vg_label, vg_seq, vg_region, vg_cond, vg_block, vg_exit, vg_ret, vg_loop, vcallF, vcallH, uls, HdelK, memN, noBox, ninL, keysH, jsAt, AdSub, adopt, noEl, isNil, effL, effO, vopsD, vquiet, vfstD, ldq, ldOk, vops, vfst, vone, vact, ug, addL, vbox, valloc, vstore, vbuild, arrF, vbuildSlice, vappend, vmake, zeroS, zeroE, vstrB, apC, nrm, nr1, nrL, keyL, neqs, diffs, V.app, V.len, vsrc, vdst, mkSl, mkBy, inOrd, placeAll, V.one, V.sto, V.csize, V.parts, V.cellsL, setMany, V.setB, V.setE, V.setO, V.noOwn, V.isOwn, vq, vcall, fzA, fz, fz1, fzL, fzN, rts, rt1, V.er, er1, er2, mixA, mixK, uargs, u1, R.add, vop, vbin, vint2, vstr2, vbool2, vnum, vun, vpick, vpick1, vbool, vconv, vnil, vfieldAddr, vindexAddr, vstEq, vindex, vload, vfield, aggD, vslice, bnd, uopt, vlen, vmin, vextract, Hpk, Hroot, refV, ownR, V.i, V.elems, V.cell, V.cut, V.exact, V.ex0, exL, V.cl, clL, V.sc, scL, scO, scH, V.ct, ct1, ct2, RetP, RetK, RetH, retL, retOne, Back, Veq, subH, obs, obsIf, En.get, En.put, En.ev, enOf, gcond, wantB, constV, exGet, subE, Sub, RV, RVL, NR, RO, subER, subHR, newLt, oldNe, oldOk, oldGe, notIn, ivN, lookN, SubR, Nm.root, Nat.reduceMul, Nat.reduceLeDiff, Nat.reduceEqDiff, Nat.reduceLT, Nat.reduceAdd, Nat.reduceSub, ↓reduceIte, implies_true, reduceCtorEq, ne_eq, ↓shr_eq, IntKind.bits, Int.reduceToNat, Int.reducePow, dite_eq_ite, Value.oneCell', Nat.reduceBEq, Nat.reduceDiv, bnS, bnN, bnT, jsB, JX, ndD, jdf, e58, e59, e66, h2]
  refine ⟨by omega, by omega, by omega, hK _ fun t ht => ?_⟩
  simp only [En.get]
  rw [if_neg (by omega), if_neg (by omega)]
theorem d12_a (J : Inv) (bd : List Nd → List UInt8 × Int) (bey : List Nd → Bool) (mk : List Nd) {E : En} {H : List (Nat × Ob)} {u : List Nd} {i n nx : Nat} {c : Cl} {K : S → Prop} (e3 : E.get 3 = some (.op 1 0)) (e8 : E.get 8 = some (.i i)) (h1 : Hroot H 1 = some (.box 27 (clV (.vw (.r 2) 6 0 n) c))) (h2 : Hroot H 2 = some (.row 36 (.sq 6 ndD (nds u)))) (hi : i < n) (hn : n ≤ u.length) (ht : (u.getD i default).text.length ≤ 1073741824)
    (hK : ∀ E', (∀ t, t < 57 → En.get E' t = En.get E t) → E'.get 58 = some (.vw (.r 2) 6 0 n) → E'.get 59 = some (.i i) → E'.get 66 = some (.str ((u.getD i default).text ++ [49])) → K ⟨E', H, nx⟩) : vopsR Tryd.prog (JX J bd bey mk) [] [12] (opsOf d12) K [(0, some (true, [])), (1, some (true, [])), (2, some (true, [])), (3, some (true, [])), (4, some (true, [])), (5, some (true, [])), (6, some (true, [])), (7, some (true, [])), (8, some (true, [])), (9, some (true, []))] ⟨E, H, nx⟩ := by
  simp only [opsOf, d12, dI, dT, dB, jL, jR, Tryd.f3, Option.getD_some]
  simp only [clV, ndD, V.i] at h1 h2 e8
  simp only [eqC, vlook, vmark, seqN, sameBox, boxJs, vquietR, vopsR, RetC, retW, cellR, undV, vgA, vbinN, vnn, isNilC, isIf, vconvH, vconvO, cvOk, frz1, frzE, jsOk, jsCo, rowsH, vgcH, vgH, vopsT, stepE, Kseq_app, vg_skip, vg_label, vg_seq, vg_region, vg_cond, vg_block, vg_exit, vg_ret, vg_loop, vcallF, vcallH, uls, HdelK, memN, noBox, ninL, keysH, jsAt, AdSub, adopt, noEl, isNil, effL, effO, vopsD, vquiet, vfstD, ldq, ldOk, vops, vfst, vone, vact, ug, addL, vbox, valloc, vstore, vbuild, arrF, vbuildSlice, vappend, vmake, zeroS, zeroE, vstrB, apC, nrm, nr1, nrL, keyL, neqs, diffs, V.app, V.len, vsrc, vdst, mkSl, mkBy, inOrd, placeAll, V.one, V.sto, V.csize, V.parts, V.cellsL, setMany, V.setB, V.setE, V.setO, V.noOwn, V.isOwn, vq, vcall, fzA, fz, fz1, fzL, fzN, rts, rt1, V.er, er1, er2, mixA, mixK, uargs, u1, R.add, vop, vbin, vint2, vstr2, vbool2, vnum, vun, vpick, vpick1, vbool, vconv, vnil, vfieldAddr, vindexAddr, vstEq, vindex, vload, vfield, aggD, vslice, bnd, uopt, vlen, vmin, vextract, Hpk, Hroot, refV, ownR, V.i, V.elems, V.cell, V.cut, V.exact, V.ex0, exL, V.cl, clL, V.sc, scL, scO, scH, V.ct, ct1, ct2, RetP, RetK, RetH, retL, retOne, Back, Veq, subH, obs, obsIf, En.get, En.put, En.ev, enOf, gcond, wantB, constV, exGet, subE, Sub, RV, RVL, NR, RO, subER, subHR, newLt, oldNe, oldOk, oldGe, notIn, ivN, lookN, SubR, Nm.root, Nat.reduceMul, Nat.reduceLeDiff, Nat.reduceEqDiff, Nat.reduceLT, Nat.reduceAdd, Nat.reduceSub, ↓reduceIte, implies_true, reduceCtorEq, ne_eq, ↓shr_eq, IntKind.bits, Int.reduceToNat, Int.reducePow, dite_eq_ite, Value.oneCell', Nat.reduceBEq, Nat.reduceDiv, bnS, bnN, bnT, jsB, JX, clV, ndD, jdf, e3, e8, h1, h2]
  refine ⟨by omega, by omega, by omega, by omega, hK _ (fun t ht => ?_) ?_ ?_ ?_⟩
  · simp only [En.get]
    iterate 10 rw [if_neg (by omega)]
  all_goals simp only [En.get, Nat.reduceEqDiff, if_true, if_false, V.i]
/-- One text is written over. -/
theorem d12_ok (J : Inv) (bd : List Nd → List UInt8 × Int) (bey : List Nd → Bool) (mk : List Nd) {E : En} {H : List (Nat × Ob)} {u : List Nd} {c : Cl} {i n nx : Nat} {K : Ko} (e3 : E.get 3 = some (.op 1 0)) (e8 : E.get 8 = some (.i i)) (h1 : Hroot H 1 = some (.box 27 (clV (.vw (.r 2) 6 0 n) c))) (h2 : Hroot H 2 = some (.row 36 (.sq 6 ndD (nds u)))) (hi : i < n) (hn : n ≤ u.length) (ht : (u.getD i default).text.length ≤ 1073741824)
    (hK : ∀ E', (∀ t, t < 57 → En.get E' t = En.get E t) → K.nrm ⟨E', (2, .row 36 (.sq 6 ndD (nds (u.set i (bump (u.getD i default)))))) :: H, nx⟩) : vg Tryd.prog (JX J bd bey mk) d12 ⟨E, H, nx⟩ K := by
  have hr : DrawC Tryd.prog (JX J bd bey mk) (opsOf d12) K.nrm ⟨E, H, nx⟩ := by
    refine DrawC.rows ([(0, some (true, [])), (1, some (true, [])), (2, some (true, [])), (3, some (true, [])), (4, some (true, [])), (5, some (true, [])), (6, some (true, [])), (7, some (true, [])), (8, some (true, [])), (9, some (true, []))] ++ [(10, some (true, [])), (11, some (true, [])), (12, none)]) [] [12] (by kernel_rfl) (vopsR_app _ _ _ ?_)
    refine d12_a J bd bey mk e3 e8 h1 h2 hi hn ht fun E' g0 g1 g2 g3 => ?_
    refine d12_b J bd bey mk g1 g2 g3 h2 hi hn fun E2 f => ?_
    exact hK E2 fun t ht => (f t ht).trans (g0 t ht)
  have he : d12 = .region 12 (opsOf d12).toArray true := by kernel_rfl
  have hf : (true && effL (opsOf d12)) = true := by kernel_rfl
  have e : (opsOf d12).toArray.toList = opsOf d12 := rfl
  rw [he, vg_region, e, hf]
  exact hr
theorem law_own (J : Inv) (bd : List Nd → List UInt8 × Int) (bey : List Nd → Bool) (mk : List Nd) (hmk : mk.length = 20) (hX : SigOk Tryd.prog (JX J bd bey mk)) (v : List Nd) (c : Cl) (hv : Big v) (hb : Big (chF v v.length)) : Fn Tryd.prog J 3 false [clV (ndsV v) c] (.bb true) := by
  have hl := hv.1
  refine Fn.of_plain (nx := 0) (post := []) ?_ rfl
  have hT : ∀ u : List Nd, (u ++ mk).take u.length = u := fun u => by simp
  refine fnH_intro Tryd.func3 d_eq (by kernel_rfl) (Nat.le_of_ble_eq_true (by kernel_rfl)) (by kernel_rfl) (by kernel_rfl) hX rfl ?_
  obtain ⟨D, hD⟩ : ∃ D, D = d12 := ⟨_, rfl⟩
  rw [← hD]
  simp only [dI, dT, dB, jL, jR, Tryd.f3, Option.getD_some]
  simp only [eqC, vlook, vmark, seqN, sameBox, boxJs, vquietR, vopsR, RetC, retW, cellR, undV, vgA, vbinN, vnn, isNilC, isIf, vconvH, vconvO, cvOk, frz1, frzE, jsOk, jsCo, rowsH, vgcH, vgH, vopsT, stepE, Kseq_app, vg_skip, vg_label, vg_seq, vg_region, vg_cond, vg_block, vg_exit, vg_ret, vg_loop, vcallF, vcallH, uls, HdelK, memN, noBox, ninL, keysH, jsAt, AdSub, adopt, noEl, isNil, effL, effO, vopsD, vquiet, vfstD, ldq, ldOk, vops, vfst, vone, vact, ug, addL, vbox, valloc, vstore, vbuild, arrF, vbuildSlice, vappend, vmake, zeroS, zeroE, vstrB, apC, nrm, nr1, nrL, keyL, neqs, diffs, V.app, V.len, vsrc, vdst, mkSl, mkBy, inOrd, placeAll, V.one, V.sto, V.csize, V.parts, V.cellsL, setMany, V.setB, V.setE, V.setO, V.noOwn, V.isOwn, vq, vcall, fzA, fz, fz1, fzL, fzN, rts, rt1, V.er, er1, er2, mixA, mixK, uargs, u1, R.add, vop, vbin, vint2, vstr2, vbool2, vnum, vun, vpick, vpick1, vbool, vconv, vnil, vfieldAddr, vindexAddr, vstEq, vindex, vload, vfield, aggD, vslice, bnd, uopt, vlen, vmin, vextract, Hpk, Hroot, refV, ownR, V.i, V.elems, V.cell, V.cut, V.exact, V.ex0, exL, V.cl, clL, V.sc, scL, scO, scH, V.ct, ct1, ct2, RetP, RetK, RetH, retL, retOne, Back, Veq, subH, obs, obsIf, En.get, En.put, En.ev, enOf, gcond, wantB, constV, exGet, subE, Sub, RV, RVL, NR, RO, subER, subHR, newLt, oldNe, oldOk, oldGe, notIn, ivN, lookN, SubR, Nm.root, Nat.reduceMul, Nat.reduceLeDiff, Nat.reduceEqDiff, Nat.reduceLT, Nat.reduceAdd, Nat.reduceSub, ↓reduceIte, implies_true, reduceCtorEq, ne_eq, ↓shr_eq, IntKind.bits, Int.reduceToNat, Int.reducePow, dite_eq_ite, Value.oneCell', Nat.reduceBEq, Nat.reduceDiv, bnS, bnN, bnT, jsB, JX, JXf, JXh, clV, ndsV, ndD, jdf, unN_nds, hT]
  refine ⟨hv, fun _ => ?_, fun _ => ⟨hv, hv, hv, hv, fun _ => ?_, fun h => h.elim⟩⟩
  · refine RenC.intro [] ⟨[(2, .bb true)], [], 0⟩ ?_ ?_ <;> simp only [eqC, vlook, vmark, seqN, sameBox, boxJs, vquietR, vopsR, RetC, retW, cellR, undV, vgA, vbinN, vnn, isNilC, isIf, vconvH, vconvO, cvOk, frz1, frzE, jsOk, jsCo, rowsH, vgcH, vgH, vopsT, stepE, Kseq_app, vg_skip, vg_label, vg_seq, vg_region, vg_cond, vg_block, vg_exit, vg_ret, vg_loop, vcallF, vcallH, uls, HdelK, memN, noBox, ninL, keysH, jsAt, AdSub, adopt, noEl, isNil, effL, effO, vopsD, vquiet, vfstD, ldq, ldOk, vops, vfst, vone, vact, ug, addL, vbox, valloc, vstore, vbuild, arrF, vbuildSlice, vappend, vmake, zeroS, zeroE, vstrB, apC, nrm, nr1, nrL, keyL, neqs, diffs, V.app, V.len, vsrc, vdst, mkSl, mkBy, inOrd, placeAll, V.one, V.sto, V.csize, V.parts, V.cellsL, setMany, V.setB, V.setE, V.setO, V.noOwn, V.isOwn, vq, vcall, fzA, fz, fz1, fzL, fzN, rts, rt1, V.er, er1, er2, mixA, mixK, uargs, u1, R.add, vop, vbin, vint2, vstr2, vbool2, vnum, vun, vpick, vpick1, vbool, vconv, vnil, vfieldAddr, vindexAddr, vstEq, vindex, vload, vfield, aggD, vslice, bnd, uopt, vlen, vmin, vextract, Hpk, Hroot, refV, ownR, V.i, V.elems, V.cell, V.cut, V.exact, V.ex0, exL, V.cl, clL, V.sc, scL, scO, scH, V.ct, ct1, ct2, RetP, RetK, RetH, retL, retOne, Back, Veq, subH, obs, obsIf, En.get, En.put, En.ev, enOf, gcond, wantB, constV, exGet, subE, Sub, RV, RVL, NR, RO, subER, subHR, newLt, oldNe, oldOk, oldGe, notIn, ivN, lookN, SubR, Nm.root, Nat.reduceMul, Nat.reduceLeDiff, Nat.reduceEqDiff, Nat.reduceLT, Nat.reduceAdd, Nat.reduceSub, ↓reduceIte, implies_true, reduceCtorEq, ne_eq, ↓shr_eq, IntKind.bits, Int.reduceToNat, Int.reducePow, dite_eq_ite, Value.oneCell', Nat.reduceBEq, Nat.reduceDiv, bnS, bnN, bnT, jsB]
  · refine ⟨hv, ?_⟩
    refine ⟨(fun h => by cases h), fun _ => ?_⟩
    refine LoopC.intro (α := Nat) (fun i => i ≤ v.length) (fun i => ⟨[(1, .op 0 0), (3, .op 1 0), (8, .i i)], [(0, .box 27 (clV (ndsV v) c)), (1, .box 27 (clV (.vw (.r 2) 6 0 v.length) c)), (2, .row 36 (.sq 6 ndD (nds (chF v i ++ mk))))], 4⟩) (fun i => v.length - i) 0 (Nat.zero_le _) ?_ ?_
    · simp only [eqC, vlook, vmark, seqN, sameBox, boxJs, vquietR, vopsR, RetC, retW, cellR, undV, vgA, vbinN, vnn, isNilC, isIf, vconvH, vconvO, cvOk, frz1, frzE, jsOk, jsCo, rowsH, vgcH, vgH, vopsT, stepE, Kseq_app, vg_skip, vg_label, vg_seq, vg_region, vg_cond, vg_block, vg_exit, vg_ret, vg_loop, vcallF, vcallH, uls, HdelK, memN, noBox, ninL, keysH, jsAt, AdSub, adopt, noEl, isNil, effL, effO, vopsD, vquiet, vfstD, ldq, ldOk, vops, vfst, vone, vact, ug, addL, vbox, valloc, vstore, vbuild, arrF, vbuildSlice, vappend, vmake, zeroS, zeroE, vstrB, apC, nrm, nr1, nrL, keyL, neqs, diffs, V.app, V.len, vsrc, vdst, mkSl, mkBy, inOrd, placeAll, V.one, V.sto, V.csize, V.parts, V.cellsL, setMany, V.setB, V.setE, V.setO, V.noOwn, V.isOwn, vq, vcall, fzA, fz, fz1, fzL, fzN, rts, rt1, V.er, er1, er2, mixA, mixK, uargs, u1, R.add, vop, vbin, vint2, vstr2, vbool2, vnum, vun, vpick, vpick1, vbool, vconv, vnil, vfieldAddr, vindexAddr, vstEq, vindex, vload, vfield, aggD, vslice, bnd, uopt, vlen, vmin, vextract, Hpk, Hroot, refV, ownR, V.i, V.elems, V.cell, V.cut, V.exact, V.ex0, exL, V.cl, clL, V.sc, scL, scO, scH, V.ct, ct1, ct2, RetP, RetK, RetH, retL, retOne, Back, Veq, subH, obs, obsIf, En.get, En.put, En.ev, enOf, gcond, wantB, constV, exGet, subE, Sub, RV, RVL, NR, RO, subER, subHR, newLt, oldNe, oldOk, oldGe, notIn, ivN, lookN, SubR, Nm.root, Nat.reduceMul, Nat.reduceLeDiff, Nat.reduceEqDiff, Nat.reduceLT, Nat.reduceAdd, Nat.reduceSub, ↓reduceIte, implies_true, reduceCtorEq, ne_eq, ↓shr_eq, IntKind.bits, Int.reduceToNat, Int.reducePow, dite_eq_ite, Value.oneCell', Nat.reduceBEq, Nat.reduceDiv, bnS, bnN, bnT, jsB, clV, ndsV, ndD, chF_0]
      rfl
    · intro i q1
      simp only [eqC, vlook, vmark, seqN, sameBox, boxJs, vquietR, vopsR, RetC, retW, cellR, undV, vgA, vbinN, vnn, isNilC, isIf, vconvH, vconvO, cvOk, frz1, frzE, jsOk, jsCo, rowsH, vgcH, vgH, vopsT, stepE, Kseq_app, vg_skip, vg_label, vg_seq, vg_region, vg_cond, vg_block, vg_exit, vg_ret, vg_loop, vcallF, vcallH, uls, HdelK, memN, noBox, ninL, keysH, jsAt, AdSub, adopt, noEl, isNil, effL, effO, vopsD, vquiet, vfstD, ldq, ldOk, vops, vfst, vone, vact, ug, addL, vbox, valloc, vstore, vbuild, arrF, vbuildSlice, vappend, vmake, zeroS, zeroE, vstrB, apC, nrm, nr1, nrL, keyL, neqs, diffs, V.app, V.len, vsrc, vdst, mkSl, mkBy, inOrd, placeAll, V.one, V.sto, V.csize, V.parts, V.cellsL, setMany, V.setB, V.setE, V.setO, V.noOwn, V.isOwn, vq, vcall, fzA, fz, fz1, fzL, fzN, rts, rt1, V.er, er1, er2, mixA, mixK, uargs, u1, R.add, vop, vbin, vint2, vstr2, vbool2, vnum, vun, vpick, vpick1, vbool, vconv, vnil, vfieldAddr, vindexAddr, vstEq, vindex, vload, vfield, aggD, vslice, bnd, uopt, vlen, vmin, vextract, Hpk, Hroot, refV, ownR, V.i, V.elems, V.cell, V.cut, V.exact, V.ex0, exL, V.cl, clL, V.sc, scL, scO, scH, V.ct, ct1, ct2, RetP, RetK, RetH, retL, retOne, Back, Veq, subH, obs, obsIf, En.get, En.put, En.ev, enOf, gcond, wantB, constV, exGet, subE, Sub, RV, RVL, NR, RO, subER, subHR, newLt, oldNe, oldOk, oldGe, notIn, ivN, lookN, SubR, Nm.root, Nat.reduceMul, Nat.reduceLeDiff, Nat.reduceEqDiff, Nat.reduceLT, Nat.reduceAdd, Nat.reduceSub, ↓reduceIte, implies_true, reduceCtorEq, ne_eq, ↓shr_eq, IntKind.bits, Int.reduceToNat, Int.reducePow, dite_eq_ite, Value.oneCell', Nat.reduceBEq, Nat.reduceDiv, bnS, bnN, bnT, jsB, JX, JXf, JXh, clV, ndsV, ndD, jdf, unN_nds]
      refine ⟨fun h5 => ?_, fun h5 => ?_⟩
      · simp only [decide_eq_true_eq] at h5
        have hi : i < v.length := by omega
        have hlen : (chF v i ++ mk).length = v.length + 20 := by rw [List.length_append, chF_len, hmk]
        have htx := (hv.at hi).2
        rw [hD]
        refine d12_ok J bd bey mk (u := chF v i ++ mk) (c := c) (i := i) (n := v.length) ?_ ?_ ?_ ?_ hi (by omega) (by rw [chF_at mk v hi]; exact htx) fun E' hE => ?_
        · simp only [En.get, Nat.reduceEqDiff, if_true, if_false]
        · simp only [En.get, Nat.reduceEqDiff, if_true, if_false, V.i]
        · simp only [Hroot, Nat.reduceEqDiff, if_true, if_false, clV, V.i]
        · simp only [Hroot, Nat.reduceEqDiff, if_true, if_false, ndD, V.i]
        · have g1 : E'.get 1 = some (.op 0 0) := (hE 1 (by omega)).trans (by simp only [En.get, Nat.reduceEqDiff, if_true, if_false])
          have g3 : E'.get 3 = some (.op 1 0) := (hE 3 (by omega)).trans (by simp only [En.get, Nat.reduceEqDiff, if_true, if_false])
          have g8 : E'.get 8 = some (.val (.int .i64 i)) := (hE 8 (by omega)).trans (by simp only [En.get, Nat.reduceEqDiff, if_true, if_false])
          clear hE
          rw [chF_at mk v hi, chF_set mk v hi]
          simp only [eqC, vlook, vmark, seqN, sameBox, boxJs, vquietR, vopsR, RetC, retW, cellR, undV, vgA, vbinN, vnn, isNilC, isIf, vconvH, vconvO, cvOk, frz1, frzE, jsOk, jsCo, rowsH, vgcH, vgH, vopsT, stepE, Kseq_app, vg_skip, vg_label, vg_seq, vg_region, vg_cond, vg_block, vg_exit, vg_ret, vg_loop, vcallF, vcallH, uls, HdelK, memN, noBox, ninL, keysH, jsAt, AdSub, adopt, noEl, isNil, effL, effO, vopsD, vquiet, vfstD, ldq, ldOk, vops, vfst, vone, vact, ug, addL, vbox, valloc, vstore, vbuild, arrF, vbuildSlice, vappend, vmake, zeroS, zeroE, vstrB, apC, nrm, nr1, nrL, keyL, neqs, diffs, V.app, V.len, vsrc, vdst, mkSl, mkBy, inOrd, placeAll, V.one, V.sto, V.csize, V.parts, V.cellsL, setMany, V.setB, V.setE, V.setO, V.noOwn, V.isOwn, vq, vcall, fzA, fz, fz1, fzL, fzN, rts, rt1, V.er, er1, er2, mixA, mixK, uargs, u1, R.add, vop, vbin, vint2, vstr2, vbool2, vnum, vun, vpick, vpick1, vbool, vconv, vnil, vfieldAddr, vindexAddr, vstEq, vindex, vload, vfield, aggD, vslice, bnd, uopt, vlen, vmin, vextract, Hpk, Hroot, refV, ownR, V.i, V.elems, V.cell, V.cut, V.exact, V.ex0, exL, V.cl, clL, V.sc, scL, scO, scH, V.ct, ct1, ct2, RetP, RetK, RetH, retL, retOne, Back, Veq, subH, obs, obsIf, En.get, En.put, En.ev, enOf, gcond, wantB, constV, exGet, subE, Sub, RV, RVL, NR, RO, subER, subHR, newLt, oldNe, oldOk, oldGe, notIn, ivN, lookN, SubR, Nm.root, Nat.reduceMul, Nat.reduceLeDiff, Nat.reduceEqDiff, Nat.reduceLT, Nat.reduceAdd, Nat.reduceSub, ↓reduceIte, implies_true, reduceCtorEq, ne_eq, ↓shr_eq, IntKind.bits, Int.reduceToNat, Int.reducePow, dite_eq_ite, Value.oneCell', Nat.reduceBEq, Nat.reduceDiv, bnS, bnN, bnT, jsB, g1, g3, g8, ndD]
          refine ⟨by constructor <;> omega, Again.intro (i + 1) (by omega) (by omega) ?_⟩
          simp only [eqC, vlook, vmark, seqN, sameBox, boxJs, vquietR, vopsR, RetC, retW, cellR, undV, vgA, vbinN, vnn, isNilC, isIf, vconvH, vconvO, cvOk, frz1, frzE, jsOk, jsCo, rowsH, vgcH, vgH, vopsT, stepE, Kseq_app, vg_skip, vg_label, vg_seq, vg_region, vg_cond, vg_block, vg_exit, vg_ret, vg_loop, vcallF, vcallH, uls, HdelK, memN, noBox, ninL, keysH, jsAt, AdSub, adopt, noEl, isNil, effL, effO, vopsD, vquiet, vfstD, ldq, ldOk, vops, vfst, vone, vact, ug, addL, vbox, valloc, vstore, vbuild, arrF, vbuildSlice, vappend, vmake, zeroS, zeroE, vstrB, apC, nrm, nr1, nrL, keyL, neqs, diffs, V.app, V.len, vsrc, vdst, mkSl, mkBy, inOrd, placeAll, V.one, V.sto, V.csize, V.parts, V.cellsL, setMany, V.setB, V.setE, V.setO, V.noOwn, V.isOwn, vq, vcall, fzA, fz, fz1, fzL, fzN, rts, rt1, V.er, er1, er2, mixA, mixK, uargs, u1, R.add, vop, vbin, vint2, vstr2, vbool2, vnum, vun, vpick, vpick1, vbool, vconv, vnil, vfieldAddr, vindexAddr, vstEq, vindex, vload, vfield, aggD, vslice, bnd, uopt, vlen, vmin, vextract, Hpk, Hroot, refV, ownR, V.i, V.elems, V.cell, V.cut, V.exact, V.ex0, exL, V.cl, clL, V.sc, scL, scO, scH, V.ct, ct1, ct2, RetP, RetK, RetH, retL, retOne, Back, Veq, subH, obs, obsIf, En.get, En.put, En.ev, enOf, gcond, wantB, constV, exGet, subE, Sub, RV, RVL, NR, RO, subER, subHR, newLt, oldNe, oldOk, oldGe, notIn, ivN, lookN, SubR, Nm.root, Nat.reduceMul, Nat.reduceLeDiff, Nat.reduceEqDiff, Nat.reduceLT, Nat.reduceAdd, Nat.reduceSub, ↓reduceIte, implies_true, reduceCtorEq, ne_eq, ↓shr_eq, IntKind.bits, Int.reduceToNat, Int.reducePow, dite_eq_ite, Value.oneCell', Nat.reduceBEq, Nat.reduceDiv, bnS, bnN, bnT, jsB, clV, ndsV, ndD, g1, g3, g8]
          omega
      · simp only [decide_eq_false_iff_not] at h5
        obtain rfl : i = v.length := by omega
        have hT2 : (chF v v.length ++ mk).take v.length = chF v v.length := by
          have := hT (chF v v.length)
          rwa [chF_len] at this
        rw [hT2, hT]
        refine ⟨hb, hb, hb, ?_⟩
        refine RenC.intro [] ⟨[(2, .bb true)], [], 0⟩ ?_ ?_
        · simp only [eqC, vlook, vmark, seqN, sameBox, boxJs, vquietR, vopsR, RetC, retW, cellR, undV, vgA, vbinN, vnn, isNilC, isIf, vconvH, vconvO, cvOk, frz1, frzE, jsOk, jsCo, rowsH, vgcH, vgH, vopsT, stepE, Kseq_app, vg_skip, vg_label, vg_seq, vg_region, vg_cond, vg_block, vg_exit, vg_ret, vg_loop, vcallF, vcallH, uls, HdelK, memN, noBox, ninL, keysH, jsAt, AdSub, adopt, noEl, isNil, effL, effO, vopsD, vquiet, vfstD, ldq, ldOk, vops, vfst, vone, vact, ug, addL, vbox, valloc, vstore, vbuild, arrF, vbuildSlice, vappend, vmake, zeroS, zeroE, vstrB, apC, nrm, nr1, nrL, keyL, neqs, diffs, V.app, V.len, vsrc, vdst, mkSl, mkBy, inOrd, placeAll, V.one, V.sto, V.csize, V.parts, V.cellsL, setMany, V.setB, V.setE, V.setO, V.noOwn, V.isOwn, vq, vcall, fzA, fz, fz1, fzL, fzN, rts, rt1, V.er, er1, er2, mixA, mixK, uargs, u1, R.add, vop, vbin, vint2, vstr2, vbool2, vnum, vun, vpick, vpick1, vbool, vconv, vnil, vfieldAddr, vindexAddr, vstEq, vindex, vload, vfield, aggD, vslice, bnd, uopt, vlen, vmin, vextract, Hpk, Hroot, refV, ownR, V.i, V.elems, V.cell, V.cut, V.exact, V.ex0, exL, V.cl, clL, V.sc, scL, scO, scH, V.ct, ct1, ct2, RetP, RetK, RetH, retL, retOne, Back, Veq, subH, obs, obsIf, En.get, En.put, En.ev, enOf, gcond, wantB, constV, exGet, subE, Sub, RV, RVL, NR, RO, subER, subHR, newLt, oldNe, oldOk, oldGe, notIn, ivN, lookN, SubR, Nm.root, Nat.reduceMul, Nat.reduceLeDiff, Nat.reduceEqDiff, Nat.reduceLT, Nat.reduceAdd, Nat.reduceSub, ↓reduceIte, implies_true, reduceCtorEq, ne_eq, ↓shr_eq, IntKind.bits, Int.reduceToNat, Int.reducePow, dite_eq_ite, Value.oneCell', Nat.reduceBEq, Nat.reduceDiv, bnS, bnN, bnT, jsB, beq_self_eq_true, Bool.and_self]
        · simp only [eqC, vlook, vmark, seqN, sameBox, boxJs, vquietR, vopsR, RetC, retW, cellR, undV, vgA, vbinN, vnn, isNilC, isIf, vconvH, vconvO, cvOk, frz1, frzE, jsOk, jsCo, rowsH, vgcH, vgH, vopsT, stepE, Kseq_app, vg_skip, vg_label, vg_seq, vg_region, vg_cond, vg_block, vg_exit, vg_ret, vg_loop, vcallF, vcallH, uls, HdelK, memN, noBox, ninL, keysH, jsAt, AdSub, adopt, noEl, isNil, effL, effO, vopsD, vquiet, vfstD, ldq, ldOk, vops, vfst, vone, vact, ug, addL, vbox, valloc, vstore, vbuild, arrF, vbuildSlice, vappend, vmake, zeroS, zeroE, vstrB, apC, nrm, nr1, nrL, keyL, neqs, diffs, V.app, V.len, vsrc, vdst, mkSl, mkBy, inOrd, placeAll, V.one, V.sto, V.csize, V.parts, V.cellsL, setMany, V.setB, V.setE, V.setO, V.noOwn, V.isOwn, vq, vcall, fzA, fz, fz1, fzL, fzN, rts, rt1, V.er, er1, er2, mixA, mixK, uargs, u1, R.add, vop, vbin, vint2, vstr2, vbool2, vnum, vun, vpick, vpick1, vbool, vconv, vnil, vfieldAddr, vindexAddr, vstEq, vindex, vload, vfield, aggD, vslice, bnd, uopt, vlen, vmin, vextract, Hpk, Hroot, refV, ownR, V.i, V.elems, V.cell, V.cut, V.exact, V.ex0, exL, V.cl, clL, V.sc, scL, scO, scH, V.ct, ct1, ct2, RetP, RetK, RetH, retL, retOne, Back, Veq, subH, obs, obsIf, En.get, En.put, En.ev, enOf, gcond, wantB, constV, exGet, subE, Sub, RV, RVL, NR, RO, subER, subHR, newLt, oldNe, oldOk, oldGe, notIn, ivN, lookN, SubR, Nm.root, Nat.reduceMul, Nat.reduceLeDiff, Nat.reduceEqDiff, Nat.reduceLT, Nat.reduceAdd, Nat.reduceSub, ↓reduceIte, implies_true, reduceCtorEq, ne_eq, ↓shr_eq, IntKind.bits, Int.reduceToNat, Int.reducePow, dite_eq_ite, Value.oneCell', Nat.reduceBEq, Nat.reduceDiv, bnS, bnN, bnT, jsB]
end Go.Proofs.YtbjfhnbgiajnjaaDoor
