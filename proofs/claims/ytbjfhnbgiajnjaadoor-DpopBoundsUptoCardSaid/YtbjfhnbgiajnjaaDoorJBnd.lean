/- Member and Bound of both: the plain law, the walks. -/
import Derived.Test.YtbjfhnbgiajnjaaDoorJRMem
namespace Go.Proofs.YtbjfhnbgiajnjaaDoor
open Go.RowKit
set_option linter.unusedSimpArgs false
set_option maxRecDepth 100000
/-- What stands behind the value ahead, by counting. -/
def t0 (l : List Nd) : Option (List Nd) := some (l.drop (behP l 1))
theorem t0_eq {t1 : List Nd → Option (List Nd)} (ht : Goes t1) {l r : List Nd} (h : t1 l = some r) : t0 l = some r := by
  obtain ⟨g1, g2, g3⟩ := ht _ _ h
  have := g3 0 (by omega)
  rw [behP_0, Nat.add_zero] at this
  unfold t0
  rw [show (1 : Int) = 0 + 1 from rfl, this, g2]
theorem memF_t0 {t1 : List Nd → Option (List Nd)} (ht : Goes t1) (key : List UInt8) {obj : Bool} : ∀ {q : Nat} {ns : List (List UInt8)} {l r : List Nd}, takeK t1 obj q ns l = some r → memF t1 key q l = memF t0 key q l
  | 0, _, _, _, _ => rfl
  | q + 1, ns, l, r, h => by
    cases l with
    | nil => cases h
    | cons x y =>
      simp only [takeK] at h
      cases hr : t1 (x :: y) with
      | none => rw [hr] at h; cases h
      | some r1 =>
        rw [hr] at h
        simp only at h
        split at h
        · cases h
        · have i1 := memF_t0 ht key h
          simp only [memF, hr, t0_eq ht hr, i1]
/-- A value that is well shaped begins there. -/
def Okv (v : List Nd) (a : Nat) : Prop := ∃ d o, (take1 plainF Lib.validD d o (v.drop a)).isSome = true
theorem Okv.lt {v : List Nd} {a : Nat} (h : Okv v a) : a < v.length := by
  obtain ⟨d, o, ht⟩ := h
  rcases Nat.lt_or_ge a v.length with h | h
  · exact h
  · rw [List.drop_eq_nil_of_le h, take1_nil] at ht; cases ht
theorem Okv.kids {v : List Nd} {a : Nat} (h : Okv v a) (h7 : (v.getD a default).kind = 7) : ∃ e r, takeK (take1 plainF Lib.validD e true) true (v.getD a default).kids.toNat [] (v.drop (a + 1)) = some r := by
  have ha := h.lt
  obtain ⟨d, o, ht⟩ := h
  obtain ⟨r, hr⟩ := Option.isSome_iff_exists.1 ht
  rw [nd_drop ha, take1_cons] at hr
  have hc : isC (v.getD a default) = true := by rw [isC, h7]; rfl
  cases d with
  | zero => rw [if_neg (by rw [okF, hc]; simp)] at hr; cases hr
  | succ e =>
    split at hr
    · refine ⟨e, r, ?_⟩
      rw [inF, h7] at hr
      exact hr
    · cases hr
def mbF (v : List Nd) (a : Nat) (key : List UInt8) : Int :=
  if (v.getD a default).kind = 7 then posF v (memF t0 key (v.getD a default).kids.toNat (v.drop (a + 1))) else -1
theorem memF_suf {t1 : List Nd → Option (List Nd)} (ht : Goes t1) {key : List UInt8} {obj : Bool} : ∀ {q : Nat} {ns : List (List UInt8)} {v r m : List Nd} {k : Nat}, takeK t1 obj q ns (v.drop k) = some r → memF t1 key q (v.drop k) = some m → ∃ p, p < v.length ∧ m = v.drop p ∧ (t1 m).isSome = true
  | 0, _, _, _, _, _, _, h => by cases h
  | q + 1, ns, v, r, m, k, h, hm => by
    obtain ⟨r1, s1, s2, s3, s4, s5⟩ := takeK_one ht h
    rw [nd_drop s2] at hm
    simp only [memF] at hm
    rw [← nd_drop s2] at hm
    split at hm
    · obtain rfl := Option.some.inj hm
      exact ⟨k, s2, rfl, by rw [s1]; rfl⟩
    · rw [s1] at hm
      simp only at hm
      rw [← s4] at s5 hm
      exact memF_suf ht s5 hm
/-- The member that is found begins a value. -/
theorem mbF_ok {v : List Nd} {a : Nat} {key : List UInt8} (h : Okv v a) (hn : ¬ mbF v a key < 0) : ∃ p : Nat, mbF v a key = p ∧ Okv v p := by
  unfold mbF at hn ⊢
  split
  · rename_i h7
    rw [if_pos h7] at hn
    obtain ⟨e, r, hr⟩ := h.kids h7
    rw [← memF_t0 (take1_goes plainF_kids e true) key hr] at hn ⊢
    cases hm : memF (take1 plainF Lib.validD e true) key (v.getD a default).kids.toNat (v.drop (a + 1)) with
    | none => rw [hm] at hn; exact absurd (show (-1 : Int) < 0 by decide) hn
    | some m =>
      obtain ⟨p, p1, p2, p3⟩ := memF_suf (take1_goes plainF_kids e true) hr hm
      subst p2
      refine ⟨p, ?_, e, true, p3⟩
      simp only [posF, List.length_drop]
      omega
  · rename_i h7
    rw [if_neg h7] at hn
    exact absurd (by decide) hn
theorem jMember_no (J : Inv) (v : List Nd) (a : Nat) (key : List UInt8) (ha : a < v.length) (h7 : ¬ (v.getD a default).kind = 7) : Fn Tryd.prog J 10 false [ndsV v, .i a, .str key] (.i (-1)) := by
  refine fn_intro Tryd.func10 rfl (by kernel_rfl) (Nat.le_of_ble_eq_true (by kernel_rfl)) (by kernel_rfl) (by kernel_rfl) rfl (J0_ok J) ?_
  unfold Tryd.f10
  simp only [eqC, vlook, vmark, seqN, sameBox, boxJs, vquietR, vopsR, RetC, retW, cellR, undV, vgA, vbinN, vnn, isNilC, isIf, vconvH, vconvO, cvOk, frz1, frzE, jsOk, jsCo, rowsH, vgcH, vgH, vopsT, stepE, Kseq_app, vg_skip, vg_label, vg_seq, vg_region, vg_cond, vg_block, vg_exit, vg_ret, vg_loop, vcallF, vcallH, uls, HdelK, memN, noBox, ninL, keysH, jsAt, AdSub, adopt, noEl, isNil, effL, effO, vopsD, vquiet, vfstD, ldq, ldOk, vops, vfst, vone, vact, ug, addL, vbox, valloc, vstore, vbuild, arrF, vbuildSlice, vappend, vmake, zeroS, zeroE, vstrB, apC, nrm, nr1, nrL, keyL, neqs, diffs, V.app, V.len, vsrc, vdst, mkSl, mkBy, inOrd, placeAll, V.one, V.sto, V.csize, V.parts, V.cellsL, setMany, V.setB, V.setE, V.setO, V.noOwn, V.isOwn, vq, vcall, fzA, fz, fz1, fzL, fzN, rts, rt1, V.er, er1, er2, mixA, mixK, uargs, u1, R.add, vop, vbin, vint2, vstr2, vbool2, vnum, vun, vpick, vpick1, vbool, vconv, vnil, vfieldAddr, vindexAddr, vstEq, vindex, vload, vfield, aggD, vslice, bnd, uopt, vlen, vmin, vextract, Hpk, Hroot, refV, ownR, V.i, V.elems, V.cell, V.cut, V.exact, V.ex0, exL, V.cl, clL, V.sc, scL, scO, scH, V.ct, ct1, ct2, RetP, RetK, RetH, retL, retOne, Back, Veq, subH, obs, obsIf, En.get, En.put, En.ev, enOf, gcond, wantB, constV, exGet, subE, Sub, RV, RVL, NR, RO, subER, subHR, newLt, oldNe, oldOk, oldGe, notIn, ivN, lookN, SubR, Nm.root, Nat.reduceMul, Nat.reduceLeDiff, Nat.reduceEqDiff, Nat.reduceLT, Nat.reduceAdd, Nat.reduceSub, ↓reduceIte, implies_true, reduceCtorEq, ne_eq, ↓shr_eq, IntKind.bits, Int.reduceToNat, Int.reducePow, dite_eq_ite, Value.oneCell', Nat.reduceBEq, Nat.reduceDiv, bnS, bnN, bnT, jsB, J0, J0f, ndsV, ndD, jdf]
  refine ⟨fun _ => by omega, fun _ => by omega, fun _ => trivial, fun h => ?_⟩
  simp only [Bool.or_eq_false_iff, Bool.not_eq_false', beq_iff_eq] at h
  exact absurd h.2 h7
theorem rMember_no (J : Inv) (v : List Nd) (a : Nat) (key : List UInt8) (ha : a < v.length) (h7 : ¬ (v.getD a default).kind = 7) : Fn Tryd.prog J 12 false [ndsV v, .i a, .str key] (.i (-1)) := by
  refine fn_intro Tryd.func12 rfl (by kernel_rfl) (Nat.le_of_ble_eq_true (by kernel_rfl)) (by kernel_rfl) (by kernel_rfl) rfl (J0_ok J) ?_
  unfold Tryd.f12
  simp only [eqC, vlook, vmark, seqN, sameBox, boxJs, vquietR, vopsR, RetC, retW, cellR, undV, vgA, vbinN, vnn, isNilC, isIf, vconvH, vconvO, cvOk, frz1, frzE, jsOk, jsCo, rowsH, vgcH, vgH, vopsT, stepE, Kseq_app, vg_skip, vg_label, vg_seq, vg_region, vg_cond, vg_block, vg_exit, vg_ret, vg_loop, vcallF, vcallH, uls, HdelK, memN, noBox, ninL, keysH, jsAt, AdSub, adopt, noEl, isNil, effL, effO, vopsD, vquiet, vfstD, ldq, ldOk, vops, vfst, vone, vact, ug, addL, vbox, valloc, vstore, vbuild, arrF, vbuildSlice, vappend, vmake, zeroS, zeroE, vstrB, apC, nrm, nr1, nrL, keyL, neqs, diffs, V.app, V.len, vsrc, vdst, mkSl, mkBy, inOrd, placeAll, V.one, V.sto, V.csize, V.parts, V.cellsL, setMany, V.setB, V.setE, V.setO, V.noOwn, V.isOwn, vq, vcall, fzA, fz, fz1, fzL, fzN, rts, rt1, V.er, er1, er2, mixA, mixK, uargs, u1, R.add, vop, vbin, vint2, vstr2, vbool2, vnum, vun, vpick, vpick1, vbool, vconv, vnil, vfieldAddr, vindexAddr, vstEq, vindex, vload, vfield, aggD, vslice, bnd, uopt, vlen, vmin, vextract, Hpk, Hroot, refV, ownR, V.i, V.elems, V.cell, V.cut, V.exact, V.ex0, exL, V.cl, clL, V.sc, scL, scO, scH, V.ct, ct1, ct2, RetP, RetK, RetH, retL, retOne, Back, Veq, subH, obs, obsIf, En.get, En.put, En.ev, enOf, gcond, wantB, constV, exGet, subE, Sub, RV, RVL, NR, RO, subER, subHR, newLt, oldNe, oldOk, oldGe, notIn, ivN, lookN, SubR, Nm.root, Nat.reduceMul, Nat.reduceLeDiff, Nat.reduceEqDiff, Nat.reduceLT, Nat.reduceAdd, Nat.reduceSub, ↓reduceIte, implies_true, reduceCtorEq, ne_eq, ↓shr_eq, IntKind.bits, Int.reduceToNat, Int.reducePow, dite_eq_ite, Value.oneCell', Nat.reduceBEq, Nat.reduceDiv, bnS, bnN, bnT, jsB, J0, J0f, ndsV, ndD, jdf]
  refine ⟨fun _ => by omega, fun _ => by omega, fun _ => trivial, fun h => ?_⟩
  simp only [Bool.or_eq_false_iff, Bool.not_eq_false', beq_iff_eq] at h
  exact absurd h.2 h7
theorem jMember_all (J : Inv) (v : List Nd) (a : Nat) (key : List UInt8) (hv : Few v) (h : Okv v a) : Fn Tryd.prog J 10 false [ndsV v, .i a, .str key] (.i (mbF v a key)) := by
  unfold mbF
  split
  · rename_i h7
    obtain ⟨e, r, hr⟩ := h.kids h7
    rw [← memF_t0 (take1_goes plainF_kids e true) key hr]
    exact jMember_fn J v a key hv h.lt _ (take1_goes plainF_kids e true) true r h7 hr
  · rename_i h7
    exact jMember_no J v a key h.lt h7
theorem rMember_all (J : Inv) (v : List Nd) (a : Nat) (key : List UInt8) (hv : Few v) (h : Okv v a) : Fn Tryd.prog J 12 false [ndsV v, .i a, .str key] (.i (mbF v a key)) := by
  unfold mbF
  split
  · rename_i h7
    obtain ⟨e, r, hr⟩ := h.kids h7
    rw [← memF_t0 (take1_goes plainF_kids e true) key hr]
    exact rMember_fn J v a e key hv h.lt [] r h7 hr
  · rename_i h7
    exact rMember_no J v a key h.lt h7
/-- A well shaped value has few kids. -/
theorem takeK_few {t1 : List Nd → Option (List Nd)} (ht : Goes t1) (hf : ∀ l r, t1 l = some r → ∀ n ∈ l.take (l.length - r.length), 0 ≤ n.kids ∧ n.kids ≤ l.length) {obj : Bool} : ∀ {q : Nat} {ns : List (List UInt8)} {l r : List Nd}, takeK t1 obj q ns l = some r →
    q + r.length ≤ l.length ∧ ∀ n ∈ l.take (l.length - r.length), 0 ≤ n.kids ∧ n.kids ≤ l.length
  | 0, _, l, r, h => by
    obtain rfl := Option.some.inj h
    refine ⟨by omega, fun n hn => ?_⟩
    rw [Nat.sub_self, List.take_zero] at hn
    cases hn
  | q + 1, ns, l, r, h => by
    cases l with
    | nil => cases h
    | cons x y =>
      simp only [takeK] at h
      cases hr : t1 (x :: y) with
      | none => rw [hr] at h; cases h
      | some r1 =>
        rw [hr] at h
        simp only at h
        split at h
        · cases h
        · obtain ⟨g1, g2, _⟩ := ht _ _ hr
          obtain ⟨i1, i2⟩ := takeK_few ht hf h
          refine ⟨by omega, fun n hn => ?_⟩
          have hsplit : (x :: y).take ((x :: y).length - r.length) = (x :: y).take ((x :: y).length - r1.length) ++ r1.take (r1.length - r.length) := by
            rw [show (x :: y).length - r.length = ((x :: y).length - r1.length) + (r1.length - r.length) from by omega, List.take_add, g2]
          rw [hsplit, List.mem_append] at hn
          rcases hn with hn | hn
          · exact hf _ _ hr n hn
          · have := i2 n hn; omega
theorem take1_few : ∀ (d : Nat) (o : Bool) (l r : List Nd), take1 plainF Lib.validD d o l = some r → ∀ n ∈ l.take (l.length - r.length), 0 ≤ n.kids ∧ n.kids ≤ l.length := by
  have key : ∀ (d : Nat) (o : Bool), (∀ n, Goes (inF plainF Lib.validD d n)) → (∀ m l r, inF plainF Lib.validD d m l = some r → ∀ n ∈ l.take (l.length - r.length), 0 ≤ n.kids ∧ n.kids ≤ l.length) →
      ∀ (l r : List Nd), take1 plainF Lib.validD d o l = some r → ∀ n ∈ l.take (l.length - r.length), 0 ≤ n.kids ∧ n.kids ≤ l.length := fun d o hg hf l r h n hn => by
    cases l with
    | nil => rw [take1_nil] at h; cases h
    | cons x y =>
      rw [take1_cons] at h
      split at h
      · rename_i ho
        obtain ⟨i1, i2⟩ := takeK_few (hg x) (hf x) h
        simp only [okF, Bool.and_eq_true] at ho
        have hk := (plainF_kids x ho.1.1.1).1
        rw [List.length_cons, show y.length + 1 - r.length = (y.length - r.length) + 1 from by omega, List.take_succ_cons, List.mem_cons] at hn
        rw [List.length_cons]
        rcases hn with rfl | hn
        · omega
        · have := i2 n hn; omega
      · cases h
  intro d
  induction d with
  | zero => exact fun o => key 0 o (fun n l r h => by cases h) fun m l r h => by cases h
  | succ d ih => exact fun o => key (d + 1) o (fun n => take1_goes plainF_kids d _) fun m => ih _
theorem well_ok {v : List Nd} (hl : v.length ≤ 1048576) (h : wellF (pl := plainF) (ut := Lib.validD) v = true) : Few v ∧ Okv v 0 := by
  unfold wellF at h
  cases hr : take1 plainF Lib.validD 32 false v with
  | none => rw [hr] at h; cases h
  | some r =>
    rw [hr] at h
    cases r with
    | cons x y => cases h
    | nil =>
      have := take1_few 32 false v [] hr
      rw [List.length_nil, Nat.sub_zero, List.take_length] at this
      exact ⟨⟨hl, fun n hn => by have := this n hn; omega⟩, 32, false, by rw [List.drop_zero, hr]; rfl⟩
end Go.Proofs.YtbjfhnbgiajnjaaDoor
