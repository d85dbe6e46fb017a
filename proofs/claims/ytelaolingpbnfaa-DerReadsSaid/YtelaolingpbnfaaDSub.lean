/- Is it a well shaped element: the walk. -/
import Derived.Test.YtelaolingpbnfaaDElW
import Derived.Test.YtelaolingpbnfaaWad
namespace Go.Proofs.Ytelaolingpbnfaa
open Go.RowKit
set_option linter.unusedSimpArgs false
set_option maxRecDepth 100000
def stK (rec : Nat → Option Nat) : Nat → Nat → Option Nat
  | 0, a => some a
  | n + 1, a => match rec a with
    | some b => stK rec n b
    | none => none
def stB (ts : List Tlv) (rec : Option (Nat → Option Nat)) (a : Nat) : Option Nat :=
  if ts.length ≤ a ∨ tagF (ts.getD a default).tag = false then none
  else if innerF (ts.getD a default).tag = false then
    if (ts.getD a default).kids ≠ 0 ∨ rightF (ts.getD a default).tag (ts.getD a default).data = false then none else some (a + 1)
  else if (ts.getD a default).kids < 0 ∨ 0 < (ts.getD a default).data.length then none
  else match rec with
    | none => none
    | some rec => stK rec (ts.getD a default).kids.toNat (a + 1)
/-- The place behind the element at a place; d: how much deeper it may go. -/
def stF (ts : List Tlv) : Nat → Nat → Option Nat
  | 0 => stB ts none
  | d + 1 => stB ts (some (stF ts d))
def encO : Option Nat → Int
  | none => -1
  | some n => n
theorem stB_ok {ts : List Tlv} {rec : Option (Nat → Option Nat)} (hr : ∀ r, rec = some r → ∀ a b, r a = some b → a < b ∧ b ≤ ts.length) {a b : Nat} (h : stB ts rec a = some b) : a < b ∧ b ≤ ts.length := by
  unfold stB at h
  split at h
  · cases h
  · rename_i h1
    split at h
    · split at h
      · cases h
      · obtain rfl : a + 1 = b := by simpa using h
        omega
    · split at h
      · cases h
      · cases rec with
        | none => cases h
        | some r =>
          have key : ∀ n a b, a ≤ ts.length → stK r n a = some b → a ≤ b ∧ b ≤ ts.length := by
            intro n
            induction n with
            | zero => intro a b ha h; obtain rfl : a = b := by simpa [stK] using h
                      exact ⟨Nat.le_refl _, ha⟩
            | succ n ih =>
              intro a b ha h
              rw [stK] at h
              split at h
              · rename_i c hc
                have h1 := hr r rfl _ _ hc
                have h2 := ih c b h1.2 h
                omega
              · cases h
          have := key _ _ _ (by omega) h
          omega
theorem stF_ok {ts : List Tlv} : ∀ (d : Nat) {a b : Nat}, stF ts d a = some b → a < b ∧ b ≤ ts.length
  | 0, _, _, h => stB_ok (fun _ h => by cases h) h
  | d + 1, _, _, h => stB_ok (fun r h => by simp only [Option.some.injEq] at h; subst h; exact fun a b => stF_ok d) h
def Small (ts : List Tlv) : Prop := ts.length ≤ 3518437208883 ∧ ∀ t ∈ ts, t.data.length ≤ 140737488355328
theorem Small.at {ts : List Tlv} (h : Small ts) {i : Nat} (hi : i < ts.length) : (ts.getD i default).data.length ≤ 140737488355328 := by
  rw [List.getD_eq_getElem?_getD, List.getElem?_eq_getElem hi]
  exact h.2 _ (List.getElem_mem hi)
def G4f (d : Option Nat) : FuncId → List V → Option (List Prop × Bool × V) := fun f args =>
  if f = 32 then match args with
    | [.val (.int .i64 t)] => some ([], false, .bb (tagF t))
    | _ => none
  else if f = 33 then match args with
    | [.val (.int .i64 t), .by l] => some ([l.length ≤ 140737488355328], false, .bb (rightF t l))
    | _ => none
  else if f = 25 then match args with
    | [.sq sz dd L, .val (.int .i64 a), .val (.int .i64 o)] => match d with
      | some d => some ([dd = tlvD, sz = 3, L = tls (unT L), Small (unT L), 0 ≤ a, a ≤ ((unT L).length : Int), o = 32 - (d : Int)], false, .i (encO (stF (unT L) d a.toNat)))
      | none => none
    | _ => none
  else none
def G4 (J : Inv) (d : Option Nat) : Sig := ⟨J, df, G4f d, noH, 0⟩
def StOk (J : Inv) (d : Nat) : Prop := ∀ (ts : List Tlv) (a : Nat), Small ts → a ≤ ts.length → Fn Try.prog J 25 false [tlsV ts, .i a, .i (32 - (d : Int))] (.i (encO (stF ts d a)))
theorem G4_ok (J : Inv) (d : Option Nat) (hd : ∀ e, d = some e → StOk J e) : SigOk Try.prog (G4 J d) := by
  refine .plain fun f args l fr r h hl => ?_
  unfold G4f at h
  split at h
  · rename_i hf; subst hf
    split at h
    · obtain ⟨rfl, rfl, rfl⟩ := some_tri h; exact tagged_fn J _
    · exact absurd h (by simp)
  · split at h
    · rename_i hf; subst hf
      split at h
      · obtain ⟨rfl, rfl, rfl⟩ := some_tri h; exact right_fn J _ _ (hl _ (List.mem_cons_self ..))
      · exact absurd h (by simp)
    · split at h
      · rename_i hf; subst hf
        split at h
        · rename_i sz dd L a o
          cases d with
          | none => exact absurd h (by simp)
          | some e =>
            obtain ⟨rfl, rfl, rfl⟩ := some_tri h
            have h1 : dd = tlvD := hl _ (by simp)
            have h2 : sz = 3 := hl _ (by simp)
            have h3 : L = tls (unT L) := hl _ (by simp)
            have h4 : Small (unT L) := hl _ (by simp)
            have h5 : (0 : Int) ≤ a := hl _ (by simp)
            have h6 : a ≤ ((unT L).length : Int) := hl _ (by simp)
            have h7 : o = 32 - (e : Int) := hl _ (by simp)
            subst h1 h2 h7
            obtain ⟨a, rfl⟩ := Int.eq_ofNat_of_zero_le h5
            have := hd e rfl (unT L) a h4 (by omega)
            rw [tlsV, ← h3] at this
            exact this
        · exact absurd h (by simp)
      · exact absurd h (by simp)
theorem tagF_range {t : Int} (h : tagF t = true) : 0 ≤ t ∧ t ≤ 255 := by
  unfold tagF at h
  simp only [Bool.and_eq_true, decide_eq_true_eq] at h
  omega
def recS (ts : List Tlv) : Option Nat → Option (Nat → Option Nat)
  | none => none
  | some e => some (stF ts e)
theorem subtree_fn (J : Inv) (D : Nat) (dd : Option Nat) (hD : (dd = none ∧ D = 0) ∨ ∃ e, dd = some e ∧ D = e + 1 ∧ StOk J e) (hD32 : D ≤ 32) : StOk J D := by
  intro ts a hs ha
  have hG : SigOk Try.prog (G4 J dd) := G4_ok J dd fun e he => by
    rcases hD with ⟨h, _⟩ | ⟨e', h1, h2, h3⟩
    · rw [h] at he; cases he
    · rw [h1] at he
      obtain rfl : e' = e := by simpa using he
      exact h3
  have hE : stF ts D = stB ts (recS ts dd) := by
    rcases hD with ⟨rfl, rfl⟩ | ⟨e', rfl, rfl, _⟩ <;> rfl
  have hs1 := hs.1
  refine fn_intro Try.func25 rfl (by kernel_rfl) (Nat.le_of_ble_eq_true (by kernel_rfl)) (by kernel_rfl) (by kernel_rfl) rfl hG ?_
  unfold Try.f25
  simp only [vquietR, vopsR, RetC, retW, cellR, undV, vgA, vbinN, vnn, isNilC, isIf, vconvH, vconvO, cvOk, frz1, frzE, jsOk, jsCo, vgcH, vgH, vopsT, stepE, Kseq_app, vg_skip, vg_label, vg_seq, vg_region, vg_cond, vg_block, vg_exit, vg_ret, vg_loop, vcallF, vcallH, uls, HdelK, memN, noBox, ninL, keysH, jsAt, AdSub, adopt, noEl, isNil, effL, effO, vopsD, vquiet, vfstD, ldq, ldOk, vops, vfst, vone, vact, ug, addL, vbox, valloc, vstore, vbuild, vbuildSlice, vappend, vmake, zeroS, zeroE, vstrB, apC, nrm, nr1, nrL, keyL, neqs, diffs, V.app, V.len, vsrc, vdst, mkSl, mkBy, inOrd, placeAll, V.one, V.sto, V.csize, V.parts, V.cellsL, setMany, V.setB, V.setE, V.setO, V.noOwn, V.isOwn, vq, vcall, fzA, fz, fz1, fzL, fzN, rts, rt1, V.er, er1, er2, mixA, mixK, uargs, u1, R.add, vop, vbin, vint2, vstr2, vbool2, vnum, vun, vpick, vpick1, vbool, vconv, vnil, vfieldAddr, vindexAddr, vindex, vload, vfield, aggD, vslice, bnd, uopt, vlen, vmin, vextract, Hpk, Hroot, refV, ownR, V.i, V.elems, V.cell, V.cut, V.exact, V.ex0, exL, V.cl, clL, V.sc, scL, scO, scH, V.ct, ct1, ct2, RetP, RetK, RetH, retL, retOne, Back, Veq, subH, obs, obsIf, En.get, En.put, En.ev, enOf, gcond, wantB, constV, exGet, subE, Sub, RV, RVL, NR, RO, subER, subHR, newLt, oldNe, oldOk, oldGe, notIn, ivN, lookN, SubR, Nm.root, nums_len, nums_get, nums_app, nums_apps, nums_set, nums_rep, nums_take, nums_drop, nums_er, nums_cl, nums_sc, nums_ct, strs_len, strs_get, strs_app, strs_apps, strs_set, strs_take, strs_drop, strs_er, strs_cl, strs_sc, strs_ct, Option.getD_some, Option.map_some, Option.map_none, Option.bind_some, Option.bind_none, Option.isSome_some, Option.isSome_none, Option.some.injEq, Option.isSome_map, List.getD_cons_zero, List.getD_cons_succ, List.getD_nil, List.length_cons, List.length_nil, List.set_cons_zero, List.set_cons_succ, List.getElem?_cons_succ, List.getElem?_cons_zero, List.getElem?_toArray, List.all_cons, List.all_nil, List.range_succ, List.range_zero, List.all_append, List.nil_append, List.cons_append, decide_eq_true_eq, decide_true, decide_false, Nat.reduceMul, Nat.reduceLeDiff, Nat.reduceEqDiff, Nat.reduceLT, Nat.reduceAdd, Nat.reduceSub, ↓reduceIte, Bool.false_eq_true, Bool.or_false, Bool.false_or, Bool.or_true, Bool.true_or, Bool.and_true, Bool.true_and, Bool.and_false, Bool.false_and, Bool.not_true, Bool.not_false, and_true, true_and, imp_self, implies_true, V.val.injEq, V.bb.injEq, V.str.injEq, V.by.injEq, V.st.injEq, V.sq.injEq, V.tu.injEq, V.ro.injEq, V.vw.injEq, V.op.injEq, V.own.injEq, Nm.r.injEq, Nm.c.injEq, List.cons.injEq, Ob.box.injEq, Ob.row.injEq, Prod.mk.injEq, Value.int.injEq, Value.bool.injEq, Value.string.injEq, reduceCtorEq, ne_eq, not_false_eq_true, not_true_eq_false, Bool.not_eq_true', wrap_byteAt, wrap_u8, ↓shr_eq, IntKind.bits, Int.reduceToNat, Int.reducePow, Nat.min_def, Nat.add_eq_left, Nat.left_eq_add, Nat.add_left_cancel_iff, Nat.add_assoc, Int.toNat_natCast, Bool.cond_true_left, Bool.cond_false_right, List.map_cons, List.map_nil, List.flatMap_cons, List.flatMap_nil, List.length_map, List.isEmpty_nil, List.isEmpty_cons, Option.toList_none, Option.toList_some, Bool.or_self, Bool.and_self, dite_eq_ite, List.drop_zero, List.drop_succ_cons, List.take_succ_cons, List.take_zero, List.drop_nil, List.take_nil, or_self, or_false, false_or, Value.oneCell', Option.all_none, Option.all_some, List.contains_cons, List.contains_nil, BEq.rfl, beq_self_eq_true, Nat.reduceBEq, Nat.reduceDiv, Nat.sub_zero, Nat.zero_add, Nat.add_zero, Try.underlying2, Try.underlying3, Try.underlying4, Try.underlying5, Try.underlying9, Try.underlying21, Try.underlying22, Try.underlying24, Try.underlying25, Try.underlying36, Try.underlying37, Try.underlying39, Try.underlying46, Try.underlying60, Try.co2, Try.co3, Try.co4, Try.co5, Try.co9, Try.co21, Try.co22, Try.co24, Try.co25, Try.co36, Try.co37, Try.co39, Try.co46, Try.co60, Try.ri3, Try.ri5, Try.ri22, Try.ri36, Try.ze2, Try.ze3, Try.ze4, Try.ze5, Try.ze9, Try.ze21, Try.ze22, Try.ze24, Try.ze25, Try.ze36, Try.ze37, Try.ze39, Try.ze46, Try.ze60, tlsV, tlvD, tloV, tlvOD, tls_len, tls_get, tls_app, tls_apps, tls_set, tls_take, tls_drop, tls_er, tls_cl, tls_ct, tlo_len, tlo_get, tlo_app, tlo_apps, tlo_set, tlo_er, tlo_sc, tlo_ct, unT_tls, unT_tlo, G4, G4f]
  rw [hE]
  refine ⟨fun h => by omega, fun h => by simp only [decide_eq_false_iff_not] at h; omega, fun h => ?_, fun h => ?_⟩
  · rw [show stB ts (recS ts dd) a = none from by unfold stB; rw [if_pos (by simp only [Bool.or_eq_true, decide_eq_true_eq, Bool.not_eq_true'] at h; exact h.imp (fun h => by omega) id)]]
    rfl
  · simp only [Bool.or_eq_false_iff, decide_eq_false_iff_not, Bool.not_eq_false'] at h
    obtain ⟨h1, h2⟩ := h
    have hlt : a < ts.length := by omega
    have hsz := hs.at hlt
    obtain ⟨t0, t1⟩ := tagF_range h2
    have hn : ¬ (ts.length ≤ a ∨ tagF (ts.getD a default).tag = false) := by rw [h2]; simp; omega
    have hin := and32 _ t0 t1
    refine ⟨by omega, by omega, fun h3 => ?_, fun h3 => ?_⟩
    · rw [h3] at hin
      have hin : innerF (ts.getD a default).tag = false := hin.symm
      refine ⟨fun _ => hsz, fun h4 => ?_, fun h4 => ?_⟩
      · rw [show stB ts (recS ts dd) a = none from by
          unfold stB
          rw [if_neg hn, if_pos hin, if_pos (by simpa using h4)]]
        rfl
      · refine ⟨by constructor <;> omega, ?_⟩
        rw [show stB ts (recS ts dd) a = some (a + 1) from by
          unfold stB
          rw [if_neg hn, if_pos hin, if_neg (by simpa using h4)]]
        simp [encO]
    · rw [h3] at hin
      have hin : innerF (ts.getD a default).tag = true := hin.symm
      refine ⟨fun h4 => ?_, fun h4 => ?_⟩
      · rw [show stB ts (recS ts dd) a = none from by
          unfold stB
          rw [if_neg hn, if_neg (by rw [hin]; simp)]
          simp only [Bool.or_eq_true, decide_eq_true_eq, beq_iff_eq] at h4
          split
          · rfl
          · rename_i h5
            have : D = 0 := by omega
            subst this
            rcases hD with ⟨rfl, _⟩ | ⟨e', _, h, _⟩
            · rfl
            · omega]
        rfl
      · simp only [Bool.or_eq_false_iff, decide_eq_false_iff_not, beq_eq_false_iff_ne] at h4
        obtain ⟨e, rfl, rfl, hrec⟩ : ∃ e, dd = some e ∧ D = e + 1 ∧ StOk J e := by
          rcases hD with ⟨h, rfl⟩ | h
          · omega
          · exact h
        rw [show stB ts (recS ts (some e)) a = stK (stF ts e) (ts.getD a default).kids.toNat (a + 1) from by
          unfold stB
          rw [if_neg hn, if_neg (by rw [hin]; simp), if_neg (by omega)]; rfl]
        generalize hE : stK (stF ts e) (ts.getD a default).kids.toNat (a + 1) = E
        refine ⟨by constructor <;> omega, ?_⟩
        refine LoopC.intro (α := Nat × Nat) (fun y => (y.1 : Int) ≤ (ts.getD a default).kids ∧ a + 1 + y.1 ≤ y.2 ∧ y.2 ≤ ts.length ∧ stK (stF ts e) ((ts.getD a default).kids.toNat - y.1) y.2 = E)
          (fun y => ⟨[(0, tlsV ts), (60, .i y.1), (59, .i (ts.getD a default).kids), (8, .i y.2), (2, .i (32 - ((e + 1 : Nat) : Int)))], [], 1⟩)
          (fun y => (ts.getD a default).kids.toNat - y.1) (0, a + 1) ⟨by simp only; omega, by simp only; omega, by simp only; omega, by simp only [Nat.sub_zero]; exact hE⟩ ?_ ?_
        · simp only [vquietR, vopsR, RetC, retW, cellR, undV, vgA, vbinN, vnn, isNilC, isIf, vconvH, vconvO, cvOk, frz1, frzE, jsOk, jsCo, vgcH, vgH, vopsT, stepE, Kseq_app, vg_skip, vg_label, vg_seq, vg_region, vg_cond, vg_block, vg_exit, vg_ret, vg_loop, vcallF, vcallH, uls, HdelK, memN, noBox, ninL, keysH, jsAt, AdSub, adopt, noEl, isNil, effL, effO, vopsD, vquiet, vfstD, ldq, ldOk, vops, vfst, vone, vact, ug, addL, vbox, valloc, vstore, vbuild, vbuildSlice, vappend, vmake, zeroS, zeroE, vstrB, apC, nrm, nr1, nrL, keyL, neqs, diffs, V.app, V.len, vsrc, vdst, mkSl, mkBy, inOrd, placeAll, V.one, V.sto, V.csize, V.parts, V.cellsL, setMany, V.setB, V.setE, V.setO, V.noOwn, V.isOwn, vq, vcall, fzA, fz, fz1, fzL, fzN, rts, rt1, V.er, er1, er2, mixA, mixK, uargs, u1, R.add, vop, vbin, vint2, vstr2, vbool2, vnum, vun, vpick, vpick1, vbool, vconv, vnil, vfieldAddr, vindexAddr, vindex, vload, vfield, aggD, vslice, bnd, uopt, vlen, vmin, vextract, Hpk, Hroot, refV, ownR, V.i, V.elems, V.cell, V.cut, V.exact, V.ex0, exL, V.cl, clL, V.sc, scL, scO, scH, V.ct, ct1, ct2, RetP, RetK, RetH, retL, retOne, Back, Veq, subH, obs, obsIf, En.get, En.put, En.ev, enOf, gcond, wantB, constV, exGet, subE, Sub, RV, RVL, NR, RO, subER, subHR, newLt, oldNe, oldOk, oldGe, notIn, ivN, lookN, SubR, Nm.root, nums_len, nums_get, nums_app, nums_apps, nums_set, nums_rep, nums_take, nums_drop, nums_er, nums_cl, nums_sc, nums_ct, strs_len, strs_get, strs_app, strs_apps, strs_set, strs_take, strs_drop, strs_er, strs_cl, strs_sc, strs_ct, Option.getD_some, Option.map_some, Option.map_none, Option.bind_some, Option.bind_none, Option.isSome_some, Option.isSome_none, Option.some.injEq, Option.isSome_map, List.getD_cons_zero, List.getD_cons_succ, List.getD_nil, List.length_cons, List.length_nil, List.set_cons_zero, List.set_cons_succ, List.getElem?_cons_succ, List.getElem?_cons_zero, List.getElem?_toArray, List.all_cons, List.all_nil, List.range_succ, List.range_zero, List.all_append, List.nil_append, List.cons_append, decide_eq_true_eq, decide_true, decide_false, Nat.reduceMul, Nat.reduceLeDiff, Nat.reduceEqDiff, Nat.reduceLT, Nat.reduceAdd, Nat.reduceSub, ↓reduceIte, Bool.false_eq_true, Bool.or_false, Bool.false_or, Bool.or_true, Bool.true_or, Bool.and_true, Bool.true_and, Bool.and_false, Bool.false_and, Bool.not_true, Bool.not_false, and_true, true_and, imp_self, implies_true, V.val.injEq, V.bb.injEq, V.str.injEq, V.by.injEq, V.st.injEq, V.sq.injEq, V.tu.injEq, V.ro.injEq, V.vw.injEq, V.op.injEq, V.own.injEq, Nm.r.injEq, Nm.c.injEq, List.cons.injEq, Ob.box.injEq, Ob.row.injEq, Prod.mk.injEq, Value.int.injEq, Value.bool.injEq, Value.string.injEq, reduceCtorEq, ne_eq, not_false_eq_true, not_true_eq_false, Bool.not_eq_true', wrap_byteAt, wrap_u8, ↓shr_eq, IntKind.bits, Int.reduceToNat, Int.reducePow, Nat.min_def, Nat.add_eq_left, Nat.left_eq_add, Nat.add_left_cancel_iff, Nat.add_assoc, Int.toNat_natCast, Bool.cond_true_left, Bool.cond_false_right, List.map_cons, List.map_nil, List.flatMap_cons, List.flatMap_nil, List.length_map, List.isEmpty_nil, List.isEmpty_cons, Option.toList_none, Option.toList_some, Bool.or_self, Bool.and_self, dite_eq_ite, List.drop_zero, List.drop_succ_cons, List.take_succ_cons, List.take_zero, List.drop_nil, List.take_nil, or_self, or_false, false_or, Value.oneCell', Option.all_none, Option.all_some, List.contains_cons, List.contains_nil, BEq.rfl, beq_self_eq_true, Nat.reduceBEq, Nat.reduceDiv, Nat.sub_zero, Nat.zero_add, Nat.add_zero, Try.underlying2, Try.underlying3, Try.underlying4, Try.underlying5, Try.underlying9, Try.underlying21, Try.underlying22, Try.underlying24, Try.underlying25, Try.underlying36, Try.underlying37, Try.underlying39, Try.underlying46, Try.underlying60, Try.co2, Try.co3, Try.co4, Try.co5, Try.co9, Try.co21, Try.co22, Try.co24, Try.co25, Try.co36, Try.co37, Try.co39, Try.co46, Try.co60, Try.ri3, Try.ri5, Try.ri22, Try.ri36, Try.ze2, Try.ze3, Try.ze4, Try.ze5, Try.ze9, Try.ze21, Try.ze22, Try.ze24, Try.ze25, Try.ze36, Try.ze37, Try.ze39, Try.ze46, Try.ze60, tlsV, tlvD, tloV, tlvOD, tls_len, tls_get, tls_app, tls_apps, tls_set, tls_take, tls_drop, tls_er, tls_cl, tls_ct, tlo_len, tlo_get, tlo_app, tlo_apps, tlo_set, tlo_er, tlo_sc, tlo_ct, unT_tls, unT_tlo]
          refine ⟨by simp, by simp⟩
        · rintro ⟨i, b⟩ ⟨g1, g2, g3, g4⟩
          simp only at g1 g2 g3 g4
          simp only [vquietR, vopsR, RetC, retW, cellR, undV, vgA, vbinN, vnn, isNilC, isIf, vconvH, vconvO, cvOk, frz1, frzE, jsOk, jsCo, vgcH, vgH, vopsT, stepE, Kseq_app, vg_skip, vg_label, vg_seq, vg_region, vg_cond, vg_block, vg_exit, vg_ret, vg_loop, vcallF, vcallH, uls, HdelK, memN, noBox, ninL, keysH, jsAt, AdSub, adopt, noEl, isNil, effL, effO, vopsD, vquiet, vfstD, ldq, ldOk, vops, vfst, vone, vact, ug, addL, vbox, valloc, vstore, vbuild, vbuildSlice, vappend, vmake, zeroS, zeroE, vstrB, apC, nrm, nr1, nrL, keyL, neqs, diffs, V.app, V.len, vsrc, vdst, mkSl, mkBy, inOrd, placeAll, V.one, V.sto, V.csize, V.parts, V.cellsL, setMany, V.setB, V.setE, V.setO, V.noOwn, V.isOwn, vq, vcall, fzA, fz, fz1, fzL, fzN, rts, rt1, V.er, er1, er2, mixA, mixK, uargs, u1, R.add, vop, vbin, vint2, vstr2, vbool2, vnum, vun, vpick, vpick1, vbool, vconv, vnil, vfieldAddr, vindexAddr, vindex, vload, vfield, aggD, vslice, bnd, uopt, vlen, vmin, vextract, Hpk, Hroot, refV, ownR, V.i, V.elems, V.cell, V.cut, V.exact, V.ex0, exL, V.cl, clL, V.sc, scL, scO, scH, V.ct, ct1, ct2, RetP, RetK, RetH, retL, retOne, Back, Veq, subH, obs, obsIf, En.get, En.put, En.ev, enOf, gcond, wantB, constV, exGet, subE, Sub, RV, RVL, NR, RO, subER, subHR, newLt, oldNe, oldOk, oldGe, notIn, ivN, lookN, SubR, Nm.root, nums_len, nums_get, nums_app, nums_apps, nums_set, nums_rep, nums_take, nums_drop, nums_er, nums_cl, nums_sc, nums_ct, strs_len, strs_get, strs_app, strs_apps, strs_set, strs_take, strs_drop, strs_er, strs_cl, strs_sc, strs_ct, Option.getD_some, Option.map_some, Option.map_none, Option.bind_some, Option.bind_none, Option.isSome_some, Option.isSome_none, Option.some.injEq, Option.isSome_map, List.getD_cons_zero, List.getD_cons_succ, List.getD_nil, List.length_cons, List.length_nil, List.set_cons_zero, List.set_cons_succ, List.getElem?_cons_succ, List.getElem?_cons_zero, List.getElem?_toArray, List.all_cons, List.all_nil, List.range_succ, List.range_zero, List.all_append, List.nil_append, List.cons_append, decide_eq_true_eq, decide_true, decide_false, Nat.reduceMul, Nat.reduceLeDiff, Nat.reduceEqDiff, Nat.reduceLT, Nat.reduceAdd, Nat.reduceSub, ↓reduceIte, Bool.false_eq_true, Bool.or_false, Bool.false_or, Bool.or_true, Bool.true_or, Bool.and_true, Bool.true_and, Bool.and_false, Bool.false_and, Bool.not_true, Bool.not_false, and_true, true_and, imp_self, implies_true, V.val.injEq, V.bb.injEq, V.str.injEq, V.by.injEq, V.st.injEq, V.sq.injEq, V.tu.injEq, V.ro.injEq, V.vw.injEq, V.op.injEq, V.own.injEq, Nm.r.injEq, Nm.c.injEq, List.cons.injEq, Ob.box.injEq, Ob.row.injEq, Prod.mk.injEq, Value.int.injEq, Value.bool.injEq, Value.string.injEq, reduceCtorEq, ne_eq, not_false_eq_true, not_true_eq_false, Bool.not_eq_true', wrap_byteAt, wrap_u8, ↓shr_eq, IntKind.bits, Int.reduceToNat, Int.reducePow, Nat.min_def, Nat.add_eq_left, Nat.left_eq_add, Nat.add_left_cancel_iff, Nat.add_assoc, Int.toNat_natCast, Bool.cond_true_left, Bool.cond_false_right, List.map_cons, List.map_nil, List.flatMap_cons, List.flatMap_nil, List.length_map, List.isEmpty_nil, List.isEmpty_cons, Option.toList_none, Option.toList_some, Bool.or_self, Bool.and_self, dite_eq_ite, List.drop_zero, List.drop_succ_cons, List.take_succ_cons, List.take_zero, List.drop_nil, List.take_nil, or_self, or_false, false_or, Value.oneCell', Option.all_none, Option.all_some, List.contains_cons, List.contains_nil, BEq.rfl, beq_self_eq_true, Nat.reduceBEq, Nat.reduceDiv, Nat.sub_zero, Nat.zero_add, Nat.add_zero, Try.underlying2, Try.underlying3, Try.underlying4, Try.underlying5, Try.underlying9, Try.underlying21, Try.underlying22, Try.underlying24, Try.underlying25, Try.underlying36, Try.underlying37, Try.underlying39, Try.underlying46, Try.underlying60, Try.co2, Try.co3, Try.co4, Try.co5, Try.co9, Try.co21, Try.co22, Try.co24, Try.co25, Try.co36, Try.co37, Try.co39, Try.co46, Try.co60, Try.ri3, Try.ri5, Try.ri22, Try.ri36, Try.ze2, Try.ze3, Try.ze4, Try.ze5, Try.ze9, Try.ze21, Try.ze22, Try.ze24, Try.ze25, Try.ze36, Try.ze37, Try.ze39, Try.ze46, Try.ze60, tlsV, tlvD, tloV, tlvOD, tls_len, tls_get, tls_app, tls_apps, tls_set, tls_take, tls_drop, tls_er, tls_cl, tls_ct, tlo_len, tlo_get, tlo_app, tlo_apps, tlo_set, tlo_er, tlo_sc, tlo_ct, unT_tls, unT_tlo, G4, G4f]
          refine ⟨fun hi => ?_, fun hi => ?_⟩
          · simp only [decide_eq_true_eq] at hi
            have hkn : (ts.getD a default).kids.toNat - i = ((ts.getD a default).kids.toNat - (i + 1)) + 1 := by omega
            rw [hkn, stK] at g4
            refine ⟨by constructor <;> omega, hs, by omega, by omega, by omega, fun h5 => ?_, fun h5 => ?_⟩
            · simp only [decide_eq_true_eq] at h5
              cases hb : stF ts e b with
              | some c => rw [hb] at h5; simp only [encO] at h5; omega
              | none => rw [hb] at g4; subst g4; rfl
            · simp only [decide_eq_false_iff_not] at h5
              cases hb : stF ts e b with
              | none => rw [hb] at h5; simp [encO] at h5
              | some c =>
                rw [hb] at g4
                obtain ⟨q1, q2⟩ := stF_ok e hb
                refine ⟨by constructor <;> omega, ?_⟩
                refine Again.intro (i + 1, c) ⟨by simp only; omega, by simp only; omega, q2, g4⟩ (by simp only; omega) ?_
                simp only [vquietR, vopsR, RetC, retW, cellR, undV, vgA, vbinN, vnn, isNilC, isIf, vconvH, vconvO, cvOk, frz1, frzE, jsOk, jsCo, vgcH, vgH, vopsT, stepE, Kseq_app, vg_skip, vg_label, vg_seq, vg_region, vg_cond, vg_block, vg_exit, vg_ret, vg_loop, vcallF, vcallH, uls, HdelK, memN, noBox, ninL, keysH, jsAt, AdSub, adopt, noEl, isNil, effL, effO, vopsD, vquiet, vfstD, ldq, ldOk, vops, vfst, vone, vact, ug, addL, vbox, valloc, vstore, vbuild, vbuildSlice, vappend, vmake, zeroS, zeroE, vstrB, apC, nrm, nr1, nrL, keyL, neqs, diffs, V.app, V.len, vsrc, vdst, mkSl, mkBy, inOrd, placeAll, V.one, V.sto, V.csize, V.parts, V.cellsL, setMany, V.setB, V.setE, V.setO, V.noOwn, V.isOwn, vq, vcall, fzA, fz, fz1, fzL, fzN, rts, rt1, V.er, er1, er2, mixA, mixK, uargs, u1, R.add, vop, vbin, vint2, vstr2, vbool2, vnum, vun, vpick, vpick1, vbool, vconv, vnil, vfieldAddr, vindexAddr, vindex, vload, vfield, aggD, vslice, bnd, uopt, vlen, vmin, vextract, Hpk, Hroot, refV, ownR, V.i, V.elems, V.cell, V.cut, V.exact, V.ex0, exL, V.cl, clL, V.sc, scL, scO, scH, V.ct, ct1, ct2, RetP, RetK, RetH, retL, retOne, Back, Veq, subH, obs, obsIf, En.get, En.put, En.ev, enOf, gcond, wantB, constV, exGet, subE, Sub, RV, RVL, NR, RO, subER, subHR, newLt, oldNe, oldOk, oldGe, notIn, ivN, lookN, SubR, Nm.root, nums_len, nums_get, nums_app, nums_apps, nums_set, nums_rep, nums_take, nums_drop, nums_er, nums_cl, nums_sc, nums_ct, strs_len, strs_get, strs_app, strs_apps, strs_set, strs_take, strs_drop, strs_er, strs_cl, strs_sc, strs_ct, Option.getD_some, Option.map_some, Option.map_none, Option.bind_some, Option.bind_none, Option.isSome_some, Option.isSome_none, Option.some.injEq, Option.isSome_map, List.getD_cons_zero, List.getD_cons_succ, List.getD_nil, List.length_cons, List.length_nil, List.set_cons_zero, List.set_cons_succ, List.getElem?_cons_succ, List.getElem?_cons_zero, List.getElem?_toArray, List.all_cons, List.all_nil, List.range_succ, List.range_zero, List.all_append, List.nil_append, List.cons_append, decide_eq_true_eq, decide_true, decide_false, Nat.reduceMul, Nat.reduceLeDiff, Nat.reduceEqDiff, Nat.reduceLT, Nat.reduceAdd, Nat.reduceSub, ↓reduceIte, Bool.false_eq_true, Bool.or_false, Bool.false_or, Bool.or_true, Bool.true_or, Bool.and_true, Bool.true_and, Bool.and_false, Bool.false_and, Bool.not_true, Bool.not_false, and_true, true_and, imp_self, implies_true, V.val.injEq, V.bb.injEq, V.str.injEq, V.by.injEq, V.st.injEq, V.sq.injEq, V.tu.injEq, V.ro.injEq, V.vw.injEq, V.op.injEq, V.own.injEq, Nm.r.injEq, Nm.c.injEq, List.cons.injEq, Ob.box.injEq, Ob.row.injEq, Prod.mk.injEq, Value.int.injEq, Value.bool.injEq, Value.string.injEq, reduceCtorEq, ne_eq, not_false_eq_true, not_true_eq_false, Bool.not_eq_true', wrap_byteAt, wrap_u8, ↓shr_eq, IntKind.bits, Int.reduceToNat, Int.reducePow, Nat.min_def, Nat.add_eq_left, Nat.left_eq_add, Nat.add_left_cancel_iff, Nat.add_assoc, Int.toNat_natCast, Bool.cond_true_left, Bool.cond_false_right, List.map_cons, List.map_nil, List.flatMap_cons, List.flatMap_nil, List.length_map, List.isEmpty_nil, List.isEmpty_cons, Option.toList_none, Option.toList_some, Bool.or_self, Bool.and_self, dite_eq_ite, List.drop_zero, List.drop_succ_cons, List.take_succ_cons, List.take_zero, List.drop_nil, List.take_nil, or_self, or_false, false_or, Value.oneCell', Option.all_none, Option.all_some, List.contains_cons, List.contains_nil, BEq.rfl, beq_self_eq_true, Nat.reduceBEq, Nat.reduceDiv, Nat.sub_zero, Nat.zero_add, Nat.add_zero, Try.underlying2, Try.underlying3, Try.underlying4, Try.underlying5, Try.underlying9, Try.underlying21, Try.underlying22, Try.underlying24, Try.underlying25, Try.underlying36, Try.underlying37, Try.underlying39, Try.underlying46, Try.underlying60, Try.co2, Try.co3, Try.co4, Try.co5, Try.co9, Try.co21, Try.co22, Try.co24, Try.co25, Try.co36, Try.co37, Try.co39, Try.co46, Try.co60, Try.ri3, Try.ri5, Try.ri22, Try.ri36, Try.ze2, Try.ze3, Try.ze4, Try.ze5, Try.ze9, Try.ze21, Try.ze22, Try.ze24, Try.ze25, Try.ze36, Try.ze37, Try.ze39, Try.ze46, Try.ze60, tlsV, tlvD, tloV, tlvOD, tls_len, tls_get, tls_app, tls_apps, tls_set, tls_take, tls_drop, tls_er, tls_cl, tls_ct, tlo_len, tlo_get, tlo_app, tlo_apps, tlo_set, tlo_er, tlo_sc, tlo_ct, unT_tls, unT_tlo, encO]
                simp
          · simp only [decide_eq_false_iff_not] at hi
            have hkn : (ts.getD a default).kids.toNat - i = 0 := by omega
            rw [hkn, stK] at g4
            subst g4; rfl
theorem stOk_all (J : Inv) : ∀ d, d ≤ 32 → StOk J d
  | 0, _ => subtree_fn J 0 none (.inl ⟨rfl, rfl⟩) (by omega)
  | d + 1, h => subtree_fn J (d + 1) (some d) (.inr ⟨d, rfl, rfl, stOk_all J d (by omega)⟩) h
/-- Is it a well shaped element? -/
def shapedF (ts : List Tlv) : Bool := decide (0 < ts.length) && (stF ts 32 0 == some ts.length)
theorem shaped_fn (J : Inv) (ts : List Tlv) (hs : Small ts) : Fn Try.prog J 14 false [tlsV ts] (.bb (shapedF ts)) := by
  have hG : SigOk Try.prog (G4 J (some 32)) := G4_ok J (some 32) fun e he => by
    simp only [Option.some.injEq] at he
    subst he
    exact stOk_all J 32 (by omega)
  refine fn_intro Try.func14 rfl (by kernel_rfl) (Nat.le_of_ble_eq_true (by kernel_rfl)) (by kernel_rfl) (by kernel_rfl) rfl hG ?_
  unfold Try.f14
  simp only [vquietR, vopsR, RetC, retW, cellR, undV, vgA, vbinN, vnn, isNilC, isIf, vconvH, vconvO, cvOk, frz1, frzE, jsOk, jsCo, vgcH, vgH, vopsT, stepE, Kseq_app, vg_skip, vg_label, vg_seq, vg_region, vg_cond, vg_block, vg_exit, vg_ret, vg_loop, vcallF, vcallH, uls, HdelK, memN, noBox, ninL, keysH, jsAt, AdSub, adopt, noEl, isNil, effL, effO, vopsD, vquiet, vfstD, ldq, ldOk, vops, vfst, vone, vact, ug, addL, vbox, valloc, vstore, vbuild, vbuildSlice, vappend, vmake, zeroS, zeroE, vstrB, apC, nrm, nr1, nrL, keyL, neqs, diffs, V.app, V.len, vsrc, vdst, mkSl, mkBy, inOrd, placeAll, V.one, V.sto, V.csize, V.parts, V.cellsL, setMany, V.setB, V.setE, V.setO, V.noOwn, V.isOwn, vq, vcall, fzA, fz, fz1, fzL, fzN, rts, rt1, V.er, er1, er2, mixA, mixK, uargs, u1, R.add, vop, vbin, vint2, vstr2, vbool2, vnum, vun, vpick, vpick1, vbool, vconv, vnil, vfieldAddr, vindexAddr, vindex, vload, vfield, aggD, vslice, bnd, uopt, vlen, vmin, vextract, Hpk, Hroot, refV, ownR, V.i, V.elems, V.cell, V.cut, V.exact, V.ex0, exL, V.cl, clL, V.sc, scL, scO, scH, V.ct, ct1, ct2, RetP, RetK, RetH, retL, retOne, Back, Veq, subH, obs, obsIf, En.get, En.put, En.ev, enOf, gcond, wantB, constV, exGet, subE, Sub, RV, RVL, NR, RO, subER, subHR, newLt, oldNe, oldOk, oldGe, notIn, ivN, lookN, SubR, Nm.root, nums_len, nums_get, nums_app, nums_apps, nums_set, nums_rep, nums_take, nums_drop, nums_er, nums_cl, nums_sc, nums_ct, strs_len, strs_get, strs_app, strs_apps, strs_set, strs_take, strs_drop, strs_er, strs_cl, strs_sc, strs_ct, Option.getD_some, Option.map_some, Option.map_none, Option.bind_some, Option.bind_none, Option.isSome_some, Option.isSome_none, Option.some.injEq, Option.isSome_map, List.getD_cons_zero, List.getD_cons_succ, List.getD_nil, List.length_cons, List.length_nil, List.set_cons_zero, List.set_cons_succ, List.getElem?_cons_succ, List.getElem?_cons_zero, List.getElem?_toArray, List.all_cons, List.all_nil, List.range_succ, List.range_zero, List.all_append, List.nil_append, List.cons_append, decide_eq_true_eq, decide_true, decide_false, Nat.reduceMul, Nat.reduceLeDiff, Nat.reduceEqDiff, Nat.reduceLT, Nat.reduceAdd, Nat.reduceSub, ↓reduceIte, Bool.false_eq_true, Bool.or_false, Bool.false_or, Bool.or_true, Bool.true_or, Bool.and_true, Bool.true_and, Bool.and_false, Bool.false_and, Bool.not_true, Bool.not_false, and_true, true_and, imp_self, implies_true, V.val.injEq, V.bb.injEq, V.str.injEq, V.by.injEq, V.st.injEq, V.sq.injEq, V.tu.injEq, V.ro.injEq, V.vw.injEq, V.op.injEq, V.own.injEq, Nm.r.injEq, Nm.c.injEq, List.cons.injEq, Ob.box.injEq, Ob.row.injEq, Prod.mk.injEq, Value.int.injEq, Value.bool.injEq, Value.string.injEq, reduceCtorEq, ne_eq, not_false_eq_true, not_true_eq_false, Bool.not_eq_true', wrap_byteAt, wrap_u8, ↓shr_eq, IntKind.bits, Int.reduceToNat, Int.reducePow, Nat.min_def, Nat.add_eq_left, Nat.left_eq_add, Nat.add_left_cancel_iff, Nat.add_assoc, Int.toNat_natCast, Bool.cond_true_left, Bool.cond_false_right, List.map_cons, List.map_nil, List.flatMap_cons, List.flatMap_nil, List.length_map, List.isEmpty_nil, List.isEmpty_cons, Option.toList_none, Option.toList_some, Bool.or_self, Bool.and_self, dite_eq_ite, List.drop_zero, List.drop_succ_cons, List.take_succ_cons, List.take_zero, List.drop_nil, List.take_nil, or_self, or_false, false_or, Value.oneCell', Option.all_none, Option.all_some, List.contains_cons, List.contains_nil, BEq.rfl, beq_self_eq_true, Nat.reduceBEq, Nat.reduceDiv, Nat.sub_zero, Nat.zero_add, Nat.add_zero, Try.underlying2, Try.underlying3, Try.underlying4, Try.underlying5, Try.underlying9, Try.underlying21, Try.underlying22, Try.underlying24, Try.underlying25, Try.underlying36, Try.underlying37, Try.underlying39, Try.underlying46, Try.underlying60, Try.co2, Try.co3, Try.co4, Try.co5, Try.co9, Try.co21, Try.co22, Try.co24, Try.co25, Try.co36, Try.co37, Try.co39, Try.co46, Try.co60, Try.ri3, Try.ri5, Try.ri22, Try.ri36, Try.ze2, Try.ze3, Try.ze4, Try.ze5, Try.ze9, Try.ze21, Try.ze22, Try.ze24, Try.ze25, Try.ze36, Try.ze37, Try.ze39, Try.ze46, Try.ze60, tlsV, tlvD, tloV, tlvOD, tls_len, tls_get, tls_app, tls_apps, tls_set, tls_take, tls_drop, tls_er, tls_cl, tls_ct, tlo_len, tlo_get, tlo_app, tlo_apps, tlo_set, tlo_er, tlo_sc, tlo_ct, unT_tls, unT_tlo, G4, G4f]
  refine ⟨fun _ => hs, fun _ => by omega, fun _ => by omega, fun _ => by omega, ?_⟩
  unfold shapedF
  congr 1
  · simp
  · cases stF ts 32 0 with
    | none => simp only [encO]; rw [show ((-1 : Int) == (ts.length : Int)) = false from by simp]; rfl
    | some b => simp only [encO]; rw [Bool.eq_iff_iff]; simp; omega
end Go.Proofs.Ytelaolingpbnfaa
