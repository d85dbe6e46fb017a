/- The law DerBack. -/
import Derived.Test.YtelaolingpbnfaaDoorLaw2
import Derived.Test.YtelaolingpbnfaaDoorBey
namespace Go.Proofs.YtelaolingpbnfaaDoor
open Go.RowKit
set_option linter.unusedSimpArgs false
set_option maxRecDepth 100000
def GNf : FuncId → List V → Option (List Prop × Bool × V) := fun f args =>
  if f = 10 then match args with
    | [.sq sz dd L] => some ([dd = tlvD, sz = 3, L = tls (unT L), Small (unT L), ∀ t ∈ unT L, t.kids ≤ 9223372036854775807], false, .bb (beyondF (unT L)))
    | _ => none
  else GMf f args
def GN : Sig := ⟨JD, df, GNf, noH, 0⟩
theorem GN_ok : SigOk Tryd.prog GN := .plain fun f args l fr r h hl => by
  change GNf f args = some (l, fr, r) at h
  unfold GNf at h
  split at h
  · rename_i hf; subst hf
    split at h
    · rename_i sz dd L
      obtain ⟨rfl, rfl, rfl⟩ := some_tri h
      have h1 : dd = tlvD := hl _ (by simp)
      have h2 : sz = 3 := hl _ (by simp)
      have h3 : L = tls (unT L) := hl _ (by simp)
      have h4 : Small (unT L) := hl _ (by simp)
      have h5 : ∀ t ∈ unT L, t.kids ≤ 9223372036854775807 := hl _ (by simp)
      subst h1 h2
      have := Beyond_fn JD (unT L) h4 h5
      rw [tlsV, ← h3] at this
      exact this
    · exact absurd h (by simp)
  · exact GM_ok.1 f args l fr r h hl
theorem print_err {ts : List Tlv} (h : (printF ts).2 ≠ 0) : (printF ts).1 = [] ∧ (shapedF ts = false → (printF ts).2 = 80) ∧ (shapedF ts = true → (printF ts).2 = 10) := by
  unfold printF at h ⊢
  split
  · rename_i h1; exact ⟨rfl, fun _ => rfl, fun h2 => by rw [h1] at h2; cases h2⟩
  · rename_i h1
    rw [if_neg h1] at h
    split
    · exact ⟨rfl, fun h2 => absurd h2 h1, fun _ => rfl⟩
    · rename_i h2; rw [if_neg h2] at h; exact absurd rfl h
theorem DerBack_fn (ts : List Tlv) (hs : Small ts) (hk : ∀ t ∈ ts, t.kids ≤ 9223372036854775807) : Fn Tryd.prog JD 3 false [tlsV ts] (.bb true) := by
  refine fn_intro Tryd.func3 rfl (by kernel_rfl) (Nat.le_of_ble_eq_true (by kernel_rfl)) (by kernel_rfl) (by kernel_rfl) rfl GN_ok ?_
  unfold Tryd.f3
  simp only [frz1, frzE, Kseq_app, vg_skip, vg_label, vg_seq, vg_region, vg_cond, vg_block, vg_exit, vg_ret, vg_loop, vcallF, vcallH, uls, HdelK, memN, noBox, ninL, keysH, jsAt, AdSub, adopt, noEl, isNil, effL, effO, vopsD, vquiet, vfstD, ldq, ldOk, vops, vfst, vone, vact, ug, addL, vbox, valloc, vstore, vbuild, vbuildSlice, vappend, vmake, zeroS, zeroE, vstrB, apC, nrm, nr1, nrL, keyL, neqs, diffs, V.app, V.len, vsrc, vdst, mkSl, mkBy, inOrd, placeAll, V.one, V.sto, V.csize, V.parts, V.cellsL, setMany, V.setB, V.setE, V.setO, V.noOwn, V.isOwn, vq, vcall, fzA, fz, fz1, fzL, fzN, rts, rt1, V.er, er1, er2, mixA, mixK, uargs, u1, R.add, vop, vbin, vint2, vstr2, vbool2, vnum, vun, vpick, vpick1, vbool, vconv, vnil, vfieldAddr, vindexAddr, vindex, vload, vfield, aggD, vslice, bnd, uopt, vlen, vmin, vextract, Hpk, Hroot, refV, ownR, V.i, V.elems, V.cell, V.cut, V.exact, V.ex0, exL, V.cl, clL, V.sc, scL, scO, scH, V.ct, ct1, ct2, RetP, RetK, RetH, retL, retOne, Back, Veq, subH, obs, obsIf, En.get, En.put, En.ev, enOf, gcond, wantB, constV, exGet, subE, Sub, RV, RVL, NR, RO, subER, subHR, newLt, oldNe, oldOk, oldGe, notIn, ivN, lookN, SubR, Nm.root, nums_len, nums_get, nums_app, nums_apps, nums_set, nums_rep, nums_take, nums_drop, nums_er, nums_cl, nums_sc, nums_ct, strs_len, strs_get, strs_app, strs_apps, strs_set, strs_take, strs_drop, strs_er, strs_cl, strs_sc, strs_ct, Option.getD_some, Option.map_some, Option.map_none, Option.bind_some, Option.bind_none, Option.isSome_some, Option.isSome_none, Option.some.injEq, Option.isSome_map, List.getD_cons_zero, List.getD_cons_succ, List.getD_nil, List.length_cons, List.length_nil, List.set_cons_zero, List.set_cons_succ, List.getElem?_cons_succ, List.getElem?_cons_zero, List.getElem?_toArray, List.all_cons, List.all_nil, List.range_succ, List.range_zero, List.all_append, List.nil_append, List.cons_append, decide_eq_true_eq, decide_true, decide_false, Nat.reduceMul, Nat.reduceLeDiff, Nat.reduceEqDiff, Nat.reduceLT, Nat.reduceAdd, Nat.reduceSub, ↓reduceIte, Bool.false_eq_true, Bool.or_false, Bool.false_or, Bool.or_true, Bool.true_or, Bool.and_true, Bool.true_and, Bool.and_false, Bool.false_and, Bool.not_true, Bool.not_false, and_true, true_and, imp_self, implies_true, V.val.injEq, V.bb.injEq, V.str.injEq, V.by.injEq, V.st.injEq, V.sq.injEq, V.tu.injEq, V.ro.injEq, V.vw.injEq, V.op.injEq, V.own.injEq, Nm.r.injEq, Nm.c.injEq, List.cons.injEq, Ob.box.injEq, Ob.row.injEq, Prod.mk.injEq, Value.int.injEq, Value.bool.injEq, Value.string.injEq, reduceCtorEq, ne_eq, not_false_eq_true, not_true_eq_false, Bool.not_eq_true', wrap_byteAt, wrap_u8, ↓shr_eq, IntKind.bits, Int.reduceToNat, Int.reducePow, Nat.min_def, Nat.add_eq_left, Nat.left_eq_add, Nat.add_left_cancel_iff, Nat.add_assoc, Int.toNat_natCast, Bool.cond_true_left, Bool.cond_false_right, List.map_cons, List.map_nil, List.flatMap_cons, List.flatMap_nil, List.length_map, List.isEmpty_nil, List.isEmpty_cons, Option.toList_none, Option.toList_some, Bool.or_self, Bool.and_self, dite_eq_ite, List.drop_zero, List.drop_succ_cons, List.take_succ_cons, List.take_zero, List.drop_nil, List.take_nil, or_self, or_false, false_or, Value.oneCell', Option.all_none, Option.all_some, List.contains_cons, List.contains_nil, BEq.rfl, beq_self_eq_true, Nat.reduceBEq, Nat.reduceDiv, Nat.sub_zero, Nat.zero_add, Nat.add_zero, Tryd.underlying3, Tryd.underlying4, Tryd.underlying5, Tryd.underlying9, Tryd.underlying22, Tryd.underlying25, Tryd.underlying26, Tryd.underlying36, Tryd.underlying49, Tryd.underlying52, Tryd.underlying54, Tryd.underlying57, Tryd.underlying81, Tryd.co3, Tryd.co4, Tryd.co5, Tryd.co9, Tryd.co22, Tryd.co25, Tryd.co26, Tryd.co36, Tryd.co49, Tryd.co52, Tryd.co54, Tryd.co57, Tryd.co81, Tryd.ri3, Tryd.ri5, Tryd.ri9, Tryd.ri25, Tryd.ri36, Tryd.ze3, Tryd.ze4, Tryd.ze5, Tryd.ze9, Tryd.ze22, Tryd.ze25, Tryd.ze26, Tryd.ze36, Tryd.ze49, Tryd.ze52, Tryd.ze54, Tryd.ze57, Tryd.ze81, tlsV, tlvD, tloV, tlvOD, tls_len, tls_get, tls_app, tls_apps, tls_set, tls_take, tls_drop, tls_er, tls_cl, tls_ct, tlo_len, tlo_get, tlo_app, tlo_apps, tlo_set, tlo_er, tlo_sc, tlo_ct, unT_tls, unT_tlo, GN, GNf, GMf, GLf]
  refine ⟨fun h => by simp at h, fun _ => ⟨hs, hk, fun _ => trivial, fun _ => ⟨hs, hs, fun h => ?_, fun h => ⟨fun h2 => ?_, fun h2 => ?_⟩⟩⟩⟩
  · have h : shapedF ts = false := by simpa using h
    have e : printF ts = ([], 80) := by unfold printF; rw [if_pos h]
    rw [e]; rfl
  · have h : shapedF ts = true := by simpa using h
    have h2 : (printF ts).2 ≠ 0 := by simpa using h2
    obtain ⟨e1, _, e3⟩ := print_err h2
    rw [e1, e3 h]; rfl
  · have h2 : (printF ts).2 = 0 := by simpa using h2
    obtain ⟨e1, e2⟩ := parse_print h2
    rw [e1]
    refine ⟨by omega, fun _ => hs, ?_⟩
    rw [sameL_iff.2 rfl]
    simp
    omega
end Go.Proofs.YtelaolingpbnfaaDoor
