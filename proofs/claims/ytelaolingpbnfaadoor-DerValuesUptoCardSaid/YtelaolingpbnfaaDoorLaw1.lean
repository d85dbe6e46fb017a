/- The laws' contracts of what they call. -/
import Derived.Test.YtelaolingpbnfaaDoorOid
import Derived.Test.YtelaolingpbnfaaDoorDBac2
namespace Go.Proofs.YtelaolingpbnfaaDoor
open Go.RowKit
set_option linter.unusedSimpArgs false
set_option maxRecDepth 100000
def GLf : FuncId → List V → Option (List Prop × Bool × V) := fun f args =>
  if f = 13 then match args with
    | [.by l] => some ([l.length ≤ 140737488355328], false, .tu [tlsV (parseF l).1, .i (parseF l).2.1, .i (parseF l).2.2])
    | _ => none
  else if f = 11 then match args with
    | [.sq sz dd L] => some ([dd = tlvD, sz = 3, L = tls (unT L), Small (unT L)], false, .tu [.by (printF (unT L)).1, .i (printF (unT L)).2])
    | _ => none
  else if f = 12 then match args with
    | [.sq sz dd L] => some ([dd = tlvD, sz = 3, L = tls (unT L), Small (unT L)], false, .bb (shapedF (unT L)))
    | _ => none
  else if f = 20 then match args with
    | [.st [.val (.int .i64 t), .by d, .val (.int .i64 k)]] => some ([d.length ≤ 1000000000000], false, .tu [.str (oidF ⟨t, d, k⟩).1, .bb (oidF ⟨t, d, k⟩).2])
    | _ => none
  else if f = 18 then match args with
    | [.st [.val (.int .i64 t), .by d, .val (.int .i64 k)]] => some ([d.length ≤ 140737488355328], false, .tu [.by (uintF ⟨t, d, k⟩).1, .bb (uintF ⟨t, d, k⟩).2])
    | _ => none
  else if f = 15 then match args with
    | [.by a, .by b] => some ([a.length ≤ 140737488355328], false, .bb (sameB a b))
    | _ => none
  else if f = 14 then match args with
    | [.sq sz dd L, .sq sz2 dd2 M] => some ([dd = tlvD, sz = 3, L = tls (unT L), dd2 = tlvD, sz2 = 3, M = tls (unT M), Small (unT L)], false, .bb (sameL (unT L) (unT M)))
    | _ => none
  else none
theorem GLf_ok (f : FuncId) (args : List V) (l : List Prop) (fr : Bool) (r : V) (h : GLf f args = some (l, fr, r)) (hl : AllP l) : Fn Tryd.prog JD f fr args r := by
  unfold GLf at h
  split at h
  · rename_i hf; subst hf
    split at h
    · obtain ⟨rfl, rfl, rfl⟩ := some_tri h; exact parse_fn JD _ (hl _ (List.mem_cons_self ..))
    · exact absurd h (by simp)
  · split at h
    · rename_i hf; subst hf
      split at h
      · rename_i sz dd L
        obtain ⟨rfl, rfl, rfl⟩ := some_tri h
        have h1 : dd = tlvD := hl _ (by simp)
        have h2 : sz = 3 := hl _ (by simp)
        have h3 : L = tls (unT L) := hl _ (by simp)
        have h4 : Small (unT L) := hl _ (by simp)
        subst h1 h2
        have := print_fn JD (unT L) h4
        rw [tlsV, ← h3] at this
        exact this
      · exact absurd h (by simp)
    · split at h
      · rename_i hf; subst hf
        split at h
        · rename_i sz dd L
          obtain ⟨rfl, rfl, rfl⟩ := some_tri h
          have h1 : dd = tlvD := hl _ (by simp)
          have h2 : sz = 3 := hl _ (by simp)
          have h3 : L = tls (unT L) := hl _ (by simp)
          have h4 : Small (unT L) := hl _ (by simp)
          subst h1 h2
          have := shaped_fn JD (unT L) h4
          rw [tlsV, ← h3] at this
          exact this
        · exact absurd h (by simp)
      · split at h
        · rename_i hf; subst hf
          split at h
          · obtain ⟨rfl, rfl, rfl⟩ := some_tri h; exact Oid_fn ⟨_, _, _⟩ (hl _ (List.mem_cons_self ..))
          · exact absurd h (by simp)
        · split at h
          · rename_i hf; subst hf
            split at h
            · obtain ⟨rfl, rfl, rfl⟩ := some_tri h; exact Uint_fn JD ⟨_, _, _⟩ (hl _ (List.mem_cons_self ..))
            · exact absurd h (by simp)
          · split at h
            · rename_i hf; subst hf
              split at h
              · obtain ⟨rfl, rfl, rfl⟩ := some_tri h; exact sameBytes_fn JD _ _ (hl _ (List.mem_cons_self ..))
              · exact absurd h (by simp)
            · split at h
              · rename_i hf; subst hf
                split at h
                · rename_i sz dd L sz2 dd2 M
                  obtain ⟨rfl, rfl, rfl⟩ := some_tri h
                  have h1 : dd = tlvD := hl _ (by simp)
                  have h2 : sz = 3 := hl _ (by simp)
                  have h3 : L = tls (unT L) := hl _ (by simp)
                  have h1' : dd2 = tlvD := hl _ (by simp)
                  have h2' : sz2 = 3 := hl _ (by simp)
                  have h3' : M = tls (unT M) := hl _ (by simp)
                  have h4 : Small (unT L) := hl _ (by simp)
                  subst h1 h2 h1' h2'
                  have := same_fn JD (unT L) (unT M) h4
                  rw [tlsV, tlsV, ← h3, ← h3'] at this
                  exact this
                · exact absurd h (by simp)
              · exact absurd h (by simp)
def GL : Sig := ⟨JD, df, GLf, noH, 0⟩
theorem GL_ok : SigOk Tryd.prog GL := .plain fun f args l fr r h hl => GLf_ok f args l fr r h hl
theorem st1 : parseF [u8 48, u8 5, u8 2, u8 1, u8 5, u8 5, u8 0] = ([⟨48, [], 2⟩, ⟨2, [u8 5], 0⟩, ⟨5, [], 0⟩], 0, 0) := by kernel_rfl
theorem st2 : parseF [u8 48, u8 5, u8 2, u8 1, u8 5, u8 5] = ([], 80, 0) := by kernel_rfl
theorem st3 : printF [⟨48, [], 2⟩, ⟨2, [u8 5], 0⟩, ⟨5, [], 0⟩] = ([u8 48, u8 5, u8 2, u8 1, u8 5, u8 5, u8 0], 0) := by kernel_rfl
theorem st4 : oidF ⟨6, [u8 42, u8 3], 0⟩ = ([49, 46, 50, 46, 51], true) := by kernel_rfl
theorem st5 : uintF ⟨2, [u8 0, u8 128], 0⟩ = ([u8 128], true) := by kernel_rfl
theorem st6 : sameB [u8 48, u8 5, u8 2, u8 1, u8 5, u8 5, u8 0] [u8 48, u8 5, u8 2, u8 1, u8 5, u8 5, u8 0] = true := by simp [sameB]
theorem started_own : FnH Tryd.prog JD 9 [] [] 0 (.bb true) [] 9 := by
  refine fnH_intro Tryd.func9 rfl (by kernel_rfl) (Nat.le_of_ble_eq_true (by kernel_rfl)) (by kernel_rfl) (by kernel_rfl) GL_ok rfl ?_
  unfold Tryd.f9
  simp only [RetC, retW, cellR, undV, vgA, vbinN, vnn, isNilC, isIf, vconvH, vconvO, cvOk, frz1, frzE, jsOk, jsCo, vgcH, vgH, vopsT, stepE, Kseq_app, vg_skip, vg_label, vg_seq, vg_region, vg_cond, vg_block, vg_exit, vg_ret, vg_loop, vcallF, vcallH, uls, HdelK, memN, noBox, ninL, keysH, jsAt, AdSub, adopt, noEl, isNil, effL, effO, vopsD, vquiet, vfstD, ldq, ldOk, vops, vfst, vone, vact, ug, addL, vbox, valloc, vstore, vbuild, vbuildSlice, vappend, vmake, zeroS, zeroE, vstrB, apC, nrm, nr1, nrL, keyL, neqs, diffs, V.app, V.len, vsrc, vdst, mkSl, mkBy, inOrd, placeAll, V.one, V.sto, V.csize, V.parts, V.cellsL, setMany, V.setB, V.setE, V.setO, V.noOwn, V.isOwn, vq, vcall, fzA, fz, fz1, fzL, fzN, rts, rt1, V.er, er1, er2, mixA, mixK, uargs, u1, R.add, vop, vbin, vint2, vstr2, vbool2, vnum, vun, vpick, vpick1, vbool, vconv, vnil, vfieldAddr, vindexAddr, vindex, vload, vfield, aggD, vslice, bnd, uopt, vlen, vmin, vextract, Hpk, Hroot, refV, ownR, V.i, V.elems, V.cell, V.cut, V.exact, V.ex0, exL, V.cl, clL, V.sc, scL, scO, scH, V.ct, ct1, ct2, RetP, RetK, RetH, retL, retOne, Back, Veq, subH, obs, obsIf, En.get, En.put, En.ev, enOf, gcond, wantB, constV, exGet, subE, Sub, RV, RVL, NR, RO, subER, subHR, newLt, oldNe, oldOk, oldGe, notIn, ivN, lookN, SubR, Nm.root, nums_len, nums_get, nums_app, nums_apps, nums_set, nums_rep, nums_take, nums_drop, nums_er, nums_cl, nums_sc, nums_ct, strs_len, strs_get, strs_app, strs_apps, strs_set, strs_take, strs_drop, strs_er, strs_cl, strs_sc, strs_ct, Option.getD_some, Option.map_some, Option.map_none, Option.bind_some, Option.bind_none, Option.isSome_some, Option.isSome_none, Option.some.injEq, Option.isSome_map, List.getD_cons_zero, List.getD_cons_succ, List.getD_nil, List.length_cons, List.length_nil, List.set_cons_zero, List.set_cons_succ, List.getElem?_cons_succ, List.getElem?_cons_zero, List.getElem?_toArray, List.all_cons, List.all_nil, List.range_succ, List.range_zero, List.all_append, List.nil_append, List.cons_append, decide_eq_true_eq, decide_true, decide_false, Nat.reduceMul, Nat.reduceLeDiff, Nat.reduceEqDiff, Nat.reduceLT, Nat.reduceAdd, Nat.reduceSub, ↓reduceIte, Bool.false_eq_true, Bool.or_false, Bool.false_or, Bool.or_true, Bool.true_or, Bool.and_true, Bool.true_and, Bool.and_false, Bool.false_and, Bool.not_true, Bool.not_false, and_true, true_and, imp_self, implies_true, V.val.injEq, V.bb.injEq, V.str.injEq, V.by.injEq, V.st.injEq, V.sq.injEq, V.tu.injEq, V.ro.injEq, V.vw.injEq, V.op.injEq, V.own.injEq, Nm.r.injEq, Nm.c.injEq, List.cons.injEq, Ob.box.injEq, Ob.row.injEq, Prod.mk.injEq, Value.int.injEq, Value.bool.injEq, Value.string.injEq, reduceCtorEq, ne_eq, not_false_eq_true, not_true_eq_false, Bool.not_eq_true', wrap_byteAt, wrap_u8, ↓shr_eq, IntKind.bits, Int.reduceToNat, Int.reducePow, Nat.min_def, Nat.add_eq_left, Nat.left_eq_add, Nat.add_left_cancel_iff, Nat.add_assoc, Int.toNat_natCast, Bool.cond_true_left, Bool.cond_false_right, List.map_cons, List.map_nil, List.flatMap_cons, List.flatMap_nil, List.length_map, List.isEmpty_nil, List.isEmpty_cons, Option.toList_none, Option.toList_some, Bool.or_self, Bool.and_self, dite_eq_ite, List.drop_zero, List.drop_succ_cons, List.take_succ_cons, List.take_zero, List.drop_nil, List.take_nil, or_self, or_false, false_or, Value.oneCell', Option.all_none, Option.all_some, List.contains_cons, List.contains_nil, BEq.rfl, beq_self_eq_true, Nat.reduceBEq, Nat.reduceDiv, Nat.sub_zero, Nat.zero_add, Nat.add_zero, Tryd.underlying2, Tryd.underlying3, Tryd.underlying4, Tryd.underlying5, Tryd.underlying9, Tryd.underlying21, Tryd.underlying22, Tryd.underlying25, Tryd.underlying26, Tryd.underlying36, Tryd.underlying49, Tryd.underlying52, Tryd.underlying54, Tryd.underlying57, Tryd.underlying75, Tryd.underlying81, Tryd.co2, Tryd.co3, Tryd.co4, Tryd.co5, Tryd.co9, Tryd.co21, Tryd.co22, Tryd.co25, Tryd.co26, Tryd.co36, Tryd.co49, Tryd.co52, Tryd.co54, Tryd.co57, Tryd.co75, Tryd.co81, Tryd.ri3, Tryd.ri5, Tryd.ri9, Tryd.ri25, Tryd.ri36, Tryd.ze2, Tryd.ze3, Tryd.ze4, Tryd.ze5, Tryd.ze9, Tryd.ze21, Tryd.ze22, Tryd.ze25, Tryd.ze26, Tryd.ze36, Tryd.ze49, Tryd.ze52, Tryd.ze54, Tryd.ze57, Tryd.ze81, tlsV, tlvD, tloV, tlvOD, tls_len, tls_get, tls_app, tls_apps, tls_set, tls_take, tls_drop, tls_er, tls_cl, tls_ct, tlo_len, tlo_get, tlo_app, tlo_apps, tlo_set, tlo_er, tlo_sc, tlo_ct, unT_tls, unT_tlo, GL, GLf]
  simp only [st1, st2, st3, st4, st5, st6]
  refine ⟨by omega, by omega, by omega, by omega, by omega, by omega, by omega, by omega, by omega, by omega, by omega, by omega, by omega, by omega, ⟨by simp, by simp⟩, by omega, by omega, by omega, by omega, by omega, by omega, by omega, by omega, by omega, by omega, by simp, by simp, .inl ?_⟩
  simp only [RetC, retW, cellR, undV, vgA, vbinN, vnn, isNilC, isIf, vconvH, vconvO, cvOk, frz1, frzE, jsOk, jsCo, vgcH, vgH, vopsT, stepE, Kseq_app, vg_skip, vg_label, vg_seq, vg_region, vg_cond, vg_block, vg_exit, vg_ret, vg_loop, vcallF, vcallH, uls, HdelK, memN, noBox, ninL, keysH, jsAt, AdSub, adopt, noEl, isNil, effL, effO, vopsD, vquiet, vfstD, ldq, ldOk, vops, vfst, vone, vact, ug, addL, vbox, valloc, vstore, vbuild, vbuildSlice, vappend, vmake, zeroS, zeroE, vstrB, apC, nrm, nr1, nrL, keyL, neqs, diffs, V.app, V.len, vsrc, vdst, mkSl, mkBy, inOrd, placeAll, V.one, V.sto, V.csize, V.parts, V.cellsL, setMany, V.setB, V.setE, V.setO, V.noOwn, V.isOwn, vq, vcall, fzA, fz, fz1, fzL, fzN, rts, rt1, V.er, er1, er2, mixA, mixK, uargs, u1, R.add, vop, vbin, vint2, vstr2, vbool2, vnum, vun, vpick, vpick1, vbool, vconv, vnil, vfieldAddr, vindexAddr, vindex, vload, vfield, aggD, vslice, bnd, uopt, vlen, vmin, vextract, Hpk, Hroot, refV, ownR, V.i, V.elems, V.cell, V.cut, V.exact, V.ex0, exL, V.cl, clL, V.sc, scL, scO, scH, V.ct, ct1, ct2, RetP, RetK, RetH, retL, retOne, Back, Veq, subH, obs, obsIf, En.get, En.put, En.ev, enOf, gcond, wantB, constV, exGet, subE, Sub, RV, RVL, NR, RO, subER, subHR, newLt, oldNe, oldOk, oldGe, notIn, ivN, lookN, SubR, Nm.root, nums_len, nums_get, nums_app, nums_apps, nums_set, nums_rep, nums_take, nums_drop, nums_er, nums_cl, nums_sc, nums_ct, strs_len, strs_get, strs_app, strs_apps, strs_set, strs_take, strs_drop, strs_er, strs_cl, strs_sc, strs_ct, Option.getD_some, Option.map_some, Option.map_none, Option.bind_some, Option.bind_none, Option.isSome_some, Option.isSome_none, Option.some.injEq, Option.isSome_map, List.getD_cons_zero, List.getD_cons_succ, List.getD_nil, List.length_cons, List.length_nil, List.set_cons_zero, List.set_cons_succ, List.getElem?_cons_succ, List.getElem?_cons_zero, List.getElem?_toArray, List.all_cons, List.all_nil, List.range_succ, List.range_zero, List.all_append, List.nil_append, List.cons_append, decide_eq_true_eq, decide_true, decide_false, Nat.reduceMul, Nat.reduceLeDiff, Nat.reduceEqDiff, Nat.reduceLT, Nat.reduceAdd, Nat.reduceSub, ↓reduceIte, Bool.false_eq_true, Bool.or_false, Bool.false_or, Bool.or_true, Bool.true_or, Bool.and_true, Bool.true_and, Bool.and_false, Bool.false_and, Bool.not_true, Bool.not_false, and_true, true_and, imp_self, implies_true, V.val.injEq, V.bb.injEq, V.str.injEq, V.by.injEq, V.st.injEq, V.sq.injEq, V.tu.injEq, V.ro.injEq, V.vw.injEq, V.op.injEq, V.own.injEq, Nm.r.injEq, Nm.c.injEq, List.cons.injEq, Ob.box.injEq, Ob.row.injEq, Prod.mk.injEq, Value.int.injEq, Value.bool.injEq, Value.string.injEq, reduceCtorEq, ne_eq, not_false_eq_true, not_true_eq_false, Bool.not_eq_true', wrap_byteAt, wrap_u8, ↓shr_eq, IntKind.bits, Int.reduceToNat, Int.reducePow, Nat.min_def, Nat.add_eq_left, Nat.left_eq_add, Nat.add_left_cancel_iff, Nat.add_assoc, Int.toNat_natCast, Bool.cond_true_left, Bool.cond_false_right, List.map_cons, List.map_nil, List.flatMap_cons, List.flatMap_nil, List.length_map, List.isEmpty_nil, List.isEmpty_cons, Option.toList_none, Option.toList_some, Bool.or_self, Bool.and_self, dite_eq_ite, List.drop_zero, List.drop_succ_cons, List.take_succ_cons, List.take_zero, List.drop_nil, List.take_nil, or_self, or_false, false_or, Value.oneCell', Option.all_none, Option.all_some, List.contains_cons, List.contains_nil, BEq.rfl, beq_self_eq_true, Nat.reduceBEq, Nat.reduceDiv, Nat.sub_zero, Nat.zero_add, Nat.add_zero, Tryd.underlying2, Tryd.underlying3, Tryd.underlying4, Tryd.underlying5, Tryd.underlying9, Tryd.underlying21, Tryd.underlying22, Tryd.underlying25, Tryd.underlying26, Tryd.underlying36, Tryd.underlying49, Tryd.underlying52, Tryd.underlying54, Tryd.underlying57, Tryd.underlying75, Tryd.underlying81, Tryd.co2, Tryd.co3, Tryd.co4, Tryd.co5, Tryd.co9, Tryd.co21, Tryd.co22, Tryd.co25, Tryd.co26, Tryd.co36, Tryd.co49, Tryd.co52, Tryd.co54, Tryd.co57, Tryd.co75, Tryd.co81, Tryd.ri3, Tryd.ri5, Tryd.ri9, Tryd.ri25, Tryd.ri36, Tryd.ze2, Tryd.ze3, Tryd.ze4, Tryd.ze5, Tryd.ze9, Tryd.ze21, Tryd.ze22, Tryd.ze25, Tryd.ze26, Tryd.ze36, Tryd.ze49, Tryd.ze52, Tryd.ze54, Tryd.ze57, Tryd.ze81, tlsV, tlvD, tloV, tlvOD, tls_len, tls_get, tls_app, tls_apps, tls_set, tls_take, tls_drop, tls_er, tls_cl, tls_ct, tlo_len, tlo_get, tlo_app, tlo_apps, tlo_set, tlo_er, tlo_sc, tlo_ct, unT_tls, unT_tlo]
  simp
theorem started_fn : Fn Tryd.prog JD 9 false [] (.bb true) := Fn.of_plain started_own rfl
end Go.Proofs.YtelaolingpbnfaaDoor
