/- json.Shaped: the pieces put together. -/
import Derived.Test.YtbjfhnbgiajnjaaDoorJShp
namespace Go.Proofs.YtbjfhnbgiajnjaaDoor
open Go.RowKit
set_option linter.unusedSimpArgs false
set_option maxRecDepth 100000
def absL (M : Names) (ls : List Lw) : List Lvl := (ls.map fun l => ⟨l.left, l.blk.bind M⟩).reverse
theorem absL_snoc (M : Names) (l0 : List Lw) (t : Lw) : absL M (l0 ++ [t]) = ⟨t.left, t.blk.bind M⟩ :: absL M l0 := by simp [absL]
theorem absL_len (M : Names) (ls : List Lw) : (absL M ls).length = ls.length := by simp [absL]
theorem topL_snoc (l0 : List Lw) (t : Lw) : topL (l0 ++ [t]) = t := by simp [topL, List.getD_eq_getElem?_getD]
theorem decL_snoc (l0 : List Lw) (t : Lw) : decL (l0 ++ [t]) = l0 ++ [⟨t.left - 1, t.blk⟩] := by
  unfold decL
  rw [topL_snoc]
  simp
theorem snoc_of {ls : List Lw} (h : ls ≠ []) : ∃ l0 t, ls = l0 ++ [t] := ⟨ls.dropLast, ls.getLast h, (List.dropLast_concat_getLast h).symm⟩
/-- What is known of the levels. -/
structure Good (M : Names) (ls : List Lw) (k : Nat) : Prop where
  dom : ∀ l ∈ ls, ∀ b, l.blk = some b → ∃ ks, M b = some ks
  inj : ls.Pairwise fun p q => ∀ b, p.blk = some b → q.blk ≠ some b
  lf : ∀ l ∈ ls, 0 ≤ l.left ∧ l.left ≤ 9223372036854775807
  nm : ∀ b ks, M b = some ks → ks.length ≤ k
theorem absL_congr {M M' : Names} {ls : List Lw} (h : ∀ l ∈ ls, ∀ b, l.blk = some b → M' b = M b) : absL M' ls = absL M ls := by
  unfold absL
  congr 1
  refine List.map_congr_left fun l hl => ?_
  cases hb : l.blk with
  | none => rfl
  | some b => simp only [Option.bind_some, h l hl b hb]
theorem Good.mono {M : Names} {ls : List Lw} {k k' : Nat} (h : Good M ls k) (hk : k ≤ k') : Good M ls k' := ⟨h.dom, h.inj, h.lf, fun b ks hb => Nat.le_trans (h.nm b ks hb) hk⟩
theorem Good.init {M : Names} {l0 : List Lw} {t : Lw} {k : Nat} (h : Good M (l0 ++ [t]) k) : Good M l0 k :=
  ⟨fun l hl => h.dom l (by simp [hl]), (List.pairwise_append.1 h.inj).1, fun l hl => h.lf l (by simp [hl]), h.nm⟩
theorem Good.sep {M : Names} {l0 : List Lw} {t : Lw} {k b : Nat} (h : Good M (l0 ++ [t]) k) (hb : t.blk = some b) : ∀ l ∈ l0, l.blk ≠ some b := fun l hl e =>
  (List.pairwise_append.1 h.inj).2.2 l hl t (by simp) b e hb
theorem Good.dec {M : Names} {l0 : List Lw} {t : Lw} {k : Nat} {x : Int} (h : Good M (l0 ++ [t]) k) (hx : 0 ≤ x ∧ x ≤ 9223372036854775807) : Good M (l0 ++ [⟨x, t.blk⟩]) k where
  dom := fun l hl b hb => by
    rcases List.mem_append.1 hl with hl | hl
    · exact h.dom l (by simp [hl]) b hb
    · obtain rfl : l = ⟨x, t.blk⟩ := by simpa using hl
      exact h.dom t (by simp) b hb
  inj := by
    obtain ⟨h1, h2, h3⟩ := List.pairwise_append.1 h.inj
    refine List.pairwise_append.2 ⟨h1, by simp, fun p hp q hq b hb => ?_⟩
    obtain rfl : q = ⟨x, t.blk⟩ := by simpa using hq
    exact h3 p hp t (by simp) b hb
  lf := fun l hl => by
    rcases List.mem_append.1 hl with hl | hl
    · exact h.lf l (by simp [hl])
    · obtain rfl : l = ⟨x, t.blk⟩ := by simpa using hl
      exact hx
  nm := h.nm
theorem Good.set {M : Names} {ls : List Lw} {k b : Nat} {ks : List (List UInt8)} (h : Good M ls k) (hk : ks.length ≤ k) : Good (setM M b ks) ls k where
  dom := fun l hl c hc => by
    unfold setM
    split
    · exact ⟨_, rfl⟩
    · exact h.dom l hl c hc
  inj := h.inj
  lf := h.lf
  nm := fun c q hc => by
    unfold setM at hc
    split at hc
    · obtain rfl := Option.some.inj hc; exact hk
    · exact h.nm c q hc
theorem Good.push {M : Names} {ls : List Lw} {k : Nat} {x : Int} {q : Option Nat} (h : Good M ls k) (hx : 0 ≤ x ∧ x ≤ 9223372036854775807) (hd : ∀ b, q = some b → ∃ ks, M b = some ks) (hn : ∀ b, q = some b → ∀ l ∈ ls, l.blk ≠ some b) : Good M (ls ++ [⟨x, q⟩]) k where
  dom := fun l hl b hb => by
    rcases List.mem_append.1 hl with hl | hl
    · exact h.dom l hl b hb
    · obtain rfl : l = ⟨x, q⟩ := by simpa using hl
      exact hd b hb
  inj := by
    refine List.pairwise_append.2 ⟨h.inj, by simp, fun p hp r hr b hb => ?_⟩
    obtain rfl : r = ⟨x, q⟩ := by simpa using hr
    exact fun e => hn b e p hp hb
  lf := fun l hl => by
    rcases List.mem_append.1 hl with hl | hl
    · exact h.lf l hl
    · obtain rfl : l = ⟨x, q⟩ := by simpa using hl
      exact hx
  nm := h.nm
section
variable {x0 : Fx} {F : Cx} {w : World} {a : Act} {M : Names}
/-- The levels that are full are closed. -/
theorem sW_ok (hn : x0.n = (Tryd.f9).ntmps) (hb : ∀ m : Nm, x0.C.O m = none ∧ x0.C.W m = none) {v : List Nd} {i k : Nat} {ls : List Lw} {Q : Exit → Act → World → Prop} (hs : Sat (xM x0 M) (sH v i ls) F a w) (hg : Good M ls k) (hl : ls.length ≤ 33)
    (hQ : ∀ ls' F a w, Good M ls' k → ls'.length ≤ 33 → (∀ l0 t, ls' = l0 ++ [t] → t.left ≠ 0) → absL M ls' = popF (absL M ls) → Sat (xM x0 M) (sH v i ls') F a w → Q .normal a w) : (Code.block 3 (.loop sW)).wp Tryd.prog Q a w := by
  have hm : Tryd.prog.follows .mixedOrders = true := by kernel_rfl
  have hbx : ∀ m : Nm, (GS x0.w.heap.size M).b ≤ m.root → (xM x0 M).C.O m = none ∧ (xM x0 M).C.W m = none := fun m _ => hb m
  refine wp_block ?_
  refine wp_loop_ghost (fun n a w => ∃ ls' F, n = ls'.length ∧ Good M ls' k ∧ ls'.length ≤ 33 ∧ popF (absL M ls') = popF (absL M ls) ∧ Sat (xM x0 M) (sH v i ls') F a w) ls.length ⟨ls, F, rfl, hg, hl, rfl, hs⟩ ?_
  clear hs hg hl
  rintro n a w ⟨ls', F, rfl, hg, hl, hp, hs⟩
  rw [sW_eq]
  refine wp_pc (G := GS x0.w.heap.size M) (GS_ok _ _) rfl hbx hm (by show okC x0.n _ = true; rw [hn]; kernel_rfl) (p11_ok x0.w.heap.size M v ls' (by omega)) hs (fun s1 F1 a1 w1 h1 hs1 => ?_) (fun _ _ _ _ h => h.elim) (fun id k hid s1 F1 a1 w1 hr1 hs1 => ?_)
  · obtain ⟨hsub, h0, ht⟩ := h1
    have hs1 := hs1.sub hsub
    obtain ⟨l0, t, rfl⟩ := snoc_of (List.length_pos_iff.1 h0)
    rw [topL_snoc] at ht
    refine wp_block ?_
    refine vg_ok (GS_ok _ _) rfl hbx hm _ _ _ _ F1 a1 w1 (by show okC x0.n _ = true; rw [hn]; kernel_rfl) (p12_ok x0.w.heap.size M v (l0 ++ [t]) (by omega) h0) ⟨fun s2 F2 a2 w2 h2 hs2 => ?_, fun _ _ _ _ h => h.elim, fun _ _ h => by simp [exGet] at h⟩ hs1
    have hs2 := hs2.sub h2
    obtain ⟨F3, hs3⟩ := hs2.adsub (ad := [.cut 3]) (t := ⟨[(12, .i i), (11, .i v.length), (10, ndsV v), (3, .ro (.r 1))], [(1, .row lvT (.sq 2 lvD (lws l0)))], 2⟩) (by
      have e1 : ((l0 ++ [t]).length - 1 < (l0 ++ [t]).length) = True := by simp
      have e2 : (l0 ++ [t]).take ((l0 ++ [t]).length - 1) = l0 := by simp
      simp only [eqC, vlook, vmark, seqN, sameBox, boxJs, vquietR, vopsR, RetC, retW, cellR, undV, vgA, vbinN, vnn, isNilC, isIf, vconvH, vconvO, cvOk, frz1, frzE, jsOk, jsCo, rowsH, vgcH, vgH, vopsT, stepE, Kseq_app, vg_skip, vg_label, vg_seq, vg_region, vg_cond, vg_block, vg_exit, vg_ret, vg_loop, vcallF, vcallH, uls, HdelK, memN, noBox, ninL, keysH, jsAt, AdSub, adopt, noEl, isNil, effL, effO, vopsD, vquiet, vfstD, ldq, ldOk, vops, vfst, vone, vact, ug, addL, vbox, valloc, vstore, vbuild, arrF, vbuildSlice, vappend, vmake, zeroS, zeroE, vstrB, apC, nrm, nr1, nrL, keyL, neqs, diffs, V.app, V.len, vsrc, vdst, mkSl, mkBy, inOrd, placeAll, V.one, V.sto, V.csize, V.parts, V.cellsL, setMany, V.setB, V.setE, V.setO, V.noOwn, V.isOwn, vq, vcall, fzA, fz, fz1, fzL, fzN, rts, rt1, V.er, er1, er2, mixA, mixK, uargs, u1, R.add, vop, vbin, vint2, vstr2, vbool2, vnum, vun, vpick, vpick1, vbool, vconv, vnil, vfieldAddr, vindexAddr, vstEq, vindex, vload, vfield, aggD, vslice, bnd, uopt, vlen, vmin, vextract, Hpk, Hroot, refV, ownR, V.i, V.elems, V.cell, V.cut, V.exact, V.ex0, exL, V.cl, clL, V.sc, scL, scO, scH, V.ct, ct1, ct2, RetP, RetK, RetH, retL, retOne, Back, Veq, subH, obs, obsIf, En.get, En.put, En.ev, enOf, gcond, wantB, constV, exGet, subE, Sub, RV, RVL, NR, RO, subER, subHR, newLt, oldNe, oldOk, oldGe, notIn, ivN, lookN, SubR, Nm.root, Nat.reduceMul, Nat.reduceLeDiff, Nat.reduceEqDiff, Nat.reduceLT, Nat.reduceAdd, Nat.reduceSub, ↓reduceIte, implies_true, reduceCtorEq, ne_eq, ↓shr_eq, IntKind.bits, Int.reduceToNat, Int.reducePow, dite_eq_ite, Value.oneCell', Nat.reduceBEq, Nat.reduceDiv, bnS, bnN, bnT, jsB, lwB, e1, e2])
    obtain ⟨F4, hs4⟩ := hs3.ren (b := 0) (σ := [(0, 1)]) (t := sH v i l0) (fun m _ => hb m) (by
      simp only [eqC, vlook, vmark, seqN, sameBox, boxJs, vquietR, vopsR, RetC, retW, cellR, undV, vgA, vbinN, vnn, isNilC, isIf, vconvH, vconvO, cvOk, frz1, frzE, jsOk, jsCo, rowsH, vgcH, vgH, vopsT, stepE, Kseq_app, vg_skip, vg_label, vg_seq, vg_region, vg_cond, vg_block, vg_exit, vg_ret, vg_loop, vcallF, vcallH, uls, HdelK, memN, noBox, ninL, keysH, jsAt, AdSub, adopt, noEl, isNil, effL, effO, vopsD, vquiet, vfstD, ldq, ldOk, vops, vfst, vone, vact, ug, addL, vbox, valloc, vstore, vbuild, arrF, vbuildSlice, vappend, vmake, zeroS, zeroE, vstrB, apC, nrm, nr1, nrL, keyL, neqs, diffs, V.app, V.len, vsrc, vdst, mkSl, mkBy, inOrd, placeAll, V.one, V.sto, V.csize, V.parts, V.cellsL, setMany, V.setB, V.setE, V.setO, V.noOwn, V.isOwn, vq, vcall, fzA, fz, fz1, fzL, fzN, rts, rt1, V.er, er1, er2, mixA, mixK, uargs, u1, R.add, vop, vbin, vint2, vstr2, vbool2, vnum, vun, vpick, vpick1, vbool, vconv, vnil, vfieldAddr, vindexAddr, vstEq, vindex, vload, vfield, aggD, vslice, bnd, uopt, vlen, vmin, vextract, Hpk, Hroot, refV, ownR, V.i, V.elems, V.cell, V.cut, V.exact, V.ex0, exL, V.cl, clL, V.sc, scL, scO, scH, V.ct, ct1, ct2, RetP, RetK, RetH, retL, retOne, Back, Veq, subH, obs, obsIf, En.get, En.put, En.ev, enOf, gcond, wantB, constV, exGet, subE, Sub, RV, RVL, NR, RO, subER, subHR, newLt, oldNe, oldOk, oldGe, notIn, ivN, lookN, SubR, Nm.root, Nat.reduceMul, Nat.reduceLeDiff, Nat.reduceEqDiff, Nat.reduceLT, Nat.reduceAdd, Nat.reduceSub, ↓reduceIte, implies_true, reduceCtorEq, ne_eq, ↓shr_eq, IntKind.bits, Int.reduceToNat, Int.reducePow, dite_eq_ite, Value.oneCell', Nat.reduceBEq, Nat.reduceDiv, bnS, bnN, bnT, jsB, lwB, ndsV, ndD])
    refine ⟨l0.length, by simp, l0, F4, rfl, hg.init, by simp at hl; omega, ?_, hs4⟩
    rw [absL_snoc, popF, if_pos ht] at hp
    exact hp
  · simp only [exGet] at hid
    split at hid
    · rename_i e; subst e
      obtain rfl := Option.some.inj hid
      obtain ⟨hsub, h0⟩ := hr1
      have ht : ∀ l0 t, ls' = l0 ++ [t] → t.left ≠ 0 := fun l0 t e => by
        subst e
        have := h0 (by simp)
        rwa [topL_snoc] at this
      refine hQ ls' F1 a1 w1 hg hl ht ?_ (hs1.sub hsub)
      rw [← hp]
      by_cases he : ls' = []
      · subst he; rfl
      · obtain ⟨l0, t, rfl⟩ := snoc_of he
        rw [absL_snoc, popF, if_neg (ht l0 t rfl)]
    · cases hid
/-- A node's name is held against its level's. -/
theorem sY_ok (hn : x0.n = (Tryd.f9).ntmps) (hb : ∀ m : Nm, x0.C.O m = none ∧ x0.C.W m = none) {v : List Nd} {i : Nat} {l0 : List Lw} {t : Lw} {n : Nd} {rr : Bool} {Q : Exit → Act → World → Prop} (hs : Sat (xM x0 M) (s1 v i n (l0 ++ [t])) F a w) (hg : Good M (l0 ++ [t]) i) (hi : i ≤ 1048576) (hk : n.key.length ≤ 1073741824)
    (hbad : bdF n (t.blk.bind M) = true → rr = false) (hR : ∀ M s F a w, RS rr s → Sat (xM x0 M) s F a w → Q .ret a w)
    (hQ : ∀ M' F a w, bdF n (t.blk.bind M) = false → Good M' (l0 ++ [t]) (i + 1) → absL M' (l0 ++ [t]) = ⟨t.left, addF n (t.blk.bind M)⟩ :: absL M l0 → Sat (xM x0 M') (s1 v i n (l0 ++ [t])) F a w → Q .normal a w) : (Code.block 2 sY).wp Tryd.prog Q a w := by
  have hm : Tryd.prog.follows .mixedOrders = true := by kernel_rfl
  have hbx : ∀ m : Nm, (GS x0.w.heap.size M).b ≤ m.root → (xM x0 M).C.O m = none ∧ (xM x0 M).C.W m = none := fun m _ => hb m
  refine wp_block ?_
  rw [sY_eq]
  have hp3 := p3_ok x0.w.heap.size M v (i := i) (l0 ++ [t]) (n := n) (by simp) hk (fun b h => hg.dom t (by simp) b (by rwa [topL_snoc] at h))
  rw [topL_snoc] at hp3
  refine wp_pc (G := GS x0.w.heap.size M) (GS_ok _ _) rfl hbx hm (by show okC x0.n _ = true; rw [hn]; kernel_rfl) hp3 hs (fun s' F1 a1 w1 h1 hs1 => ?_) (fun _ _ _ _ h => h.elim) (fun _ _ h => by simp [exGet] at h)
  have hs1 := hs1.sub h1
  have he : a1.eval (.tmp 36) = .bool (bdF n (t.blk.bind M)) := rep_bb (hs1.env 36 _ rfl).2
  refine wp_cond_split he (fun hc => ?_) (fun hc => ?_)
  · refine vg_ok (G := GS x0.w.heap.size M) (GS_ok _ _) rfl hbx hm _ _ _ _ F1 a1 w1 (by show okC x0.n _ = true; rw [hn]; kernel_rfl) (p5_ok x0.w.heap.size M) ⟨fun _ _ _ _ h => h.elim, fun s2 F2 a2 w2 h2 hs2 => ?_, fun _ _ h => by simp [exGet] at h⟩ (hs1.sub ⟨trivial, trivial, Nat.le_refl _⟩)
    rw [← hbad hc] at h2
    exact hR M s2 F2 a2 w2 h2 hs2
  · have hs1 := hs1.sub (t := s1 v i n (l0 ++ [t])) (by simp only [eqC, vlook, vmark, seqN, sameBox, boxJs, vquietR, vopsR, RetC, retW, cellR, undV, vgA, vbinN, vnn, isNilC, isIf, vconvH, vconvO, cvOk, frz1, frzE, jsOk, jsCo, rowsH, vgcH, vgH, vopsT, stepE, Kseq_app, vg_skip, vg_label, vg_seq, vg_region, vg_cond, vg_block, vg_exit, vg_ret, vg_loop, vcallF, vcallH, uls, HdelK, memN, noBox, ninL, keysH, jsAt, AdSub, adopt, noEl, isNil, effL, effO, vopsD, vquiet, vfstD, ldq, ldOk, vops, vfst, vone, vact, ug, addL, vbox, valloc, vstore, vbuild, arrF, vbuildSlice, vappend, vmake, zeroS, zeroE, vstrB, apC, nrm, nr1, nrL, keyL, neqs, diffs, V.app, V.len, vsrc, vdst, mkSl, mkBy, inOrd, placeAll, V.one, V.sto, V.csize, V.parts, V.cellsL, setMany, V.setB, V.setE, V.setO, V.noOwn, V.isOwn, vq, vcall, fzA, fz, fz1, fzL, fzN, rts, rt1, V.er, er1, er2, mixA, mixK, uargs, u1, R.add, vop, vbin, vint2, vstr2, vbool2, vnum, vun, vpick, vpick1, vbool, vconv, vnil, vfieldAddr, vindexAddr, vstEq, vindex, vload, vfield, aggD, vslice, bnd, uopt, vlen, vmin, vextract, Hpk, Hroot, refV, ownR, V.i, V.elems, V.cell, V.cut, V.exact, V.ex0, exL, V.cl, clL, V.sc, scL, scO, scH, V.ct, ct1, ct2, RetP, RetK, RetH, retL, retOne, Back, Veq, subH, obs, obsIf, En.get, En.put, En.ev, enOf, gcond, wantB, constV, exGet, subE, Sub, RV, RVL, NR, RO, subER, subHR, newLt, oldNe, oldOk, oldGe, notIn, ivN, lookN, SubR, Nm.root, Nat.reduceMul, Nat.reduceLeDiff, Nat.reduceEqDiff, Nat.reduceLT, Nat.reduceAdd, Nat.reduceSub, ↓reduceIte, implies_true, reduceCtorEq, ne_eq, ↓shr_eq, IntKind.bits, Int.reduceToNat, Int.reducePow, dite_eq_ite, Value.oneCell', Nat.reduceBEq, Nat.reduceDiv, bnS, bnN, bnT, jsB, lwB, ndsV, ndD, ndV])
    rw [sE_eq]
    have hp4 := p4_ok x0.w.heap.size M v (i := i) (l0 ++ [t]) (n := n) (by simp)
    rw [topL_snoc] at hp4
    refine wp_pc (G := GS x0.w.heap.size M) (GS_ok _ _) rfl hbx hm (by show okC x0.n _ = true; rw [hn]; kernel_rfl) hp4 hs1 (fun s' F2 a2 w2 h2 hs2 => ?_) (fun _ _ _ _ h => h.elim) (fun _ _ h => by simp [exGet] at h)
    have hs2 := hs2.sub h2
    have he : a2.eval (.tmp 63) = .bool t.blk.isSome := rep_bb (hs2.env 63 _ rfl).2
    have hs2 := hs2.sub (t := s1 v i n (l0 ++ [t])) (by simp only [eqC, vlook, vmark, seqN, sameBox, boxJs, vquietR, vopsR, RetC, retW, cellR, undV, vgA, vbinN, vnn, isNilC, isIf, vconvH, vconvO, cvOk, frz1, frzE, jsOk, jsCo, rowsH, vgcH, vgH, vopsT, stepE, Kseq_app, vg_skip, vg_label, vg_seq, vg_region, vg_cond, vg_block, vg_exit, vg_ret, vg_loop, vcallF, vcallH, uls, HdelK, memN, noBox, ninL, keysH, jsAt, AdSub, adopt, noEl, isNil, effL, effO, vopsD, vquiet, vfstD, ldq, ldOk, vops, vfst, vone, vact, ug, addL, vbox, valloc, vstore, vbuild, arrF, vbuildSlice, vappend, vmake, zeroS, zeroE, vstrB, apC, nrm, nr1, nrL, keyL, neqs, diffs, V.app, V.len, vsrc, vdst, mkSl, mkBy, inOrd, placeAll, V.one, V.sto, V.csize, V.parts, V.cellsL, setMany, V.setB, V.setE, V.setO, V.noOwn, V.isOwn, vq, vcall, fzA, fz, fz1, fzL, fzN, rts, rt1, V.er, er1, er2, mixA, mixK, uargs, u1, R.add, vop, vbin, vint2, vstr2, vbool2, vnum, vun, vpick, vpick1, vbool, vconv, vnil, vfieldAddr, vindexAddr, vstEq, vindex, vload, vfield, aggD, vslice, bnd, uopt, vlen, vmin, vextract, Hpk, Hroot, refV, ownR, V.i, V.elems, V.cell, V.cut, V.exact, V.ex0, exL, V.cl, clL, V.sc, scL, scO, scH, V.ct, ct1, ct2, RetP, RetK, RetH, retL, retOne, Back, Veq, subH, obs, obsIf, En.get, En.put, En.ev, enOf, gcond, wantB, constV, exGet, subE, Sub, RV, RVL, NR, RO, subER, subHR, newLt, oldNe, oldOk, oldGe, notIn, ivN, lookN, SubR, Nm.root, Nat.reduceMul, Nat.reduceLeDiff, Nat.reduceEqDiff, Nat.reduceLT, Nat.reduceAdd, Nat.reduceSub, ↓reduceIte, implies_true, reduceCtorEq, ne_eq, ↓shr_eq, IntKind.bits, Int.reduceToNat, Int.reducePow, dite_eq_ite, Value.oneCell', Nat.reduceBEq, Nat.reduceDiv, bnS, bnN, bnT, jsB, lwB, ndsV, ndD, ndV])
    refine wp_cond_split he (fun hd => ?_) (fun hd => ?_)
    · obtain ⟨b, hblk⟩ := Option.isSome_iff_exists.1 hd
      obtain ⟨ks, hM⟩ := hg.dom t (by simp) b hblk
      have hkl := hg.nm b ks hM
      refine s12_ok hn hs2 (by simp) (b := b) (ks := ks) (by rw [← hblk]; exact congrArg Lw.blk (topL_snoc l0 t)) hM hk (by omega) fun a3 w3 hs3 => ?_
      refine hQ _ F2 a3 w3 hc ((hg.mono (Nat.le_succ i)).set (by rw [List.length_append]; simp; omega)) ?_ hs3
      rw [absL_snoc, absL_congr (M := M) (ls := l0) (fun l hl c hc => by
        unfold setM
        rw [if_neg (fun e => hg.sep hblk l hl (by rw [hc, e]))])]
      rw [hblk]
      simp only [Option.bind_some, setM, if_true, hM, addF, Option.map_some]
    · have hblk : t.blk = none := by cases h : t.blk with
        | none => rfl
        | some b => rw [h] at hd; cases hd
      refine wp_skip (hQ M F2 a2 w2 hc (hg.mono (Nat.le_succ i)) ?_ hs2)
      rw [absL_snoc, hblk]
      rfl
/-- A level is opened. -/
theorem s19_ok (hn : x0.n = (Tryd.f9).ntmps) (hb : ∀ m : Nm, x0.C.O m = none ∧ x0.C.W m = none) {v : List Nd} {i : Nat} {ls : List Lw} {n : Nd} {q : Option Nat} {Q : Exit → Act → World → Prop} (hs : Sat (xM x0 M) (s3 v i n ls q) F a w) (hl : ls.length ≤ 32)
    (hQ : ∀ F a w, Sat (xM x0 M) (sH v i (ls ++ [⟨n.kids, q⟩])) F a w → Q .normal a w) : (jR sZt2).wp Tryd.prog Q a w := by
  have hm : Tryd.prog.follows .mixedOrders = true := by kernel_rfl
  have hbx : ∀ m : Nm, (GS x0.w.heap.size M).b ≤ m.root → (xM x0 M).C.O m = none ∧ (xM x0 M).C.W m = none := fun m _ => hb m
  refine vg_ok (G := GS x0.w.heap.size M) (GS_ok _ _) rfl hbx hm _ _ _ _ F a w (by show okC x0.n _ = true; rw [hn]; kernel_rfl) (p10_ok x0.w.heap.size M v ls hl) ⟨fun s2 F2 a2 w2 h2 hs2 => ?_, fun _ _ _ _ h => h.elim, fun _ _ h => by simp [exGet] at h⟩ hs
  have hs2 := hs2.sub h2
  obtain ⟨F4, hs4⟩ := hs2.ren (b := 0) (σ := [(0, 4)]) (t := sH v i (ls ++ [⟨n.kids, q⟩])) (fun m _ => hb m) (by simp only [eqC, vlook, vmark, seqN, sameBox, boxJs, vquietR, vopsR, RetC, retW, cellR, undV, vgA, vbinN, vnn, isNilC, isIf, vconvH, vconvO, cvOk, frz1, frzE, jsOk, jsCo, rowsH, vgcH, vgH, vopsT, stepE, Kseq_app, vg_skip, vg_label, vg_seq, vg_region, vg_cond, vg_block, vg_exit, vg_ret, vg_loop, vcallF, vcallH, uls, HdelK, memN, noBox, ninL, keysH, jsAt, AdSub, adopt, noEl, isNil, effL, effO, vopsD, vquiet, vfstD, ldq, ldOk, vops, vfst, vone, vact, ug, addL, vbox, valloc, vstore, vbuild, arrF, vbuildSlice, vappend, vmake, zeroS, zeroE, vstrB, apC, nrm, nr1, nrL, keyL, neqs, diffs, V.app, V.len, vsrc, vdst, mkSl, mkBy, inOrd, placeAll, V.one, V.sto, V.csize, V.parts, V.cellsL, setMany, V.setB, V.setE, V.setO, V.noOwn, V.isOwn, vq, vcall, fzA, fz, fz1, fzL, fzN, rts, rt1, V.er, er1, er2, mixA, mixK, uargs, u1, R.add, vop, vbin, vint2, vstr2, vbool2, vnum, vun, vpick, vpick1, vbool, vconv, vnil, vfieldAddr, vindexAddr, vstEq, vindex, vload, vfield, aggD, vslice, bnd, uopt, vlen, vmin, vextract, Hpk, Hroot, refV, ownR, V.i, V.elems, V.cell, V.cut, V.exact, V.ex0, exL, V.cl, clL, V.sc, scL, scO, scH, V.ct, ct1, ct2, RetP, RetK, RetH, retL, retOne, Back, Veq, subH, obs, obsIf, En.get, En.put, En.ev, enOf, gcond, wantB, constV, exGet, subE, Sub, RV, RVL, NR, RO, subER, subHR, newLt, oldNe, oldOk, oldGe, notIn, ivN, lookN, SubR, Nm.root, Nat.reduceMul, Nat.reduceLeDiff, Nat.reduceEqDiff, Nat.reduceLT, Nat.reduceAdd, Nat.reduceSub, ↓reduceIte, implies_true, reduceCtorEq, ne_eq, ↓shr_eq, IntKind.bits, Int.reduceToNat, Int.reducePow, dite_eq_ite, Value.oneCell', Nat.reduceBEq, Nat.reduceDiv, bnS, bnN, bnT, jsB, lwB, ndsV, ndD])
  exact hQ F4 a2 w2 hs4
theorem sZ_ok (hn : x0.n = (Tryd.f9).ntmps) (hb : ∀ m : Nm, x0.C.O m = none ∧ x0.C.W m = none) {v : List Nd} {i k : Nat} {ls : List Lw} {n : Nd} {rr : Bool} {Q : Exit → Act → World → Prop} (hs : Sat (xM x0 M) (s1 v i n ls) F a w) (hg : Good M ls k) (hl : ls.length ≤ 33) (hkid : 0 ≤ n.kids ∧ n.kids ≤ 9223372036854775807)
    (hbad : isC n = true → 32 < ls.length → rr = false) (hR : ∀ M s F a w, RS rr s → Sat (xM x0 M) s F a w → Q .ret a w)
    (hQ : ∀ M' ls' F a w, (isC n = true → ls.length ≤ 32) → Good M' ls' k → ls'.length ≤ 33 → absL M' ls' = (if isC n = true then ⟨n.kids, if n.kind = 7 then some [] else none⟩ :: absL M ls else absL M ls) → Sat (xM x0 M') (sH v i ls') F a w → Q .normal a w) : sZ.wp Tryd.prog Q a w := by
  have hm : Tryd.prog.follows .mixedOrders = true := by kernel_rfl
  have hbx : ∀ M, ∀ m : Nm, (GS x0.w.heap.size M).b ≤ m.root → (xM x0 M).C.O m = none ∧ (xM x0 M).C.W m = none := fun M m _ => hb m
  rw [sZ_eq]
  refine wp_pc (G := GS x0.w.heap.size M) (GS_ok _ _) rfl (hbx M) hm (by show okC x0.n _ = true; rw [hn]; kernel_rfl) (p6_ok x0.w.heap.size M v ls) hs (fun s' F1 a1 w1 h1 hs1 => ?_) (fun _ _ _ _ h => h.elim) (fun _ _ h => by simp [exGet] at h)
  have hs1 := hs1.sub h1
  have he : a1.eval (.tmp 82) = .bool (isC n) := rep_bb (hs1.env 82 _ rfl).2
  have hs1 := hs1.sub (t := s1 v i n ls) (by simp only [eqC, vlook, vmark, seqN, sameBox, boxJs, vquietR, vopsR, RetC, retW, cellR, undV, vgA, vbinN, vnn, isNilC, isIf, vconvH, vconvO, cvOk, frz1, frzE, jsOk, jsCo, rowsH, vgcH, vgH, vopsT, stepE, Kseq_app, vg_skip, vg_label, vg_seq, vg_region, vg_cond, vg_block, vg_exit, vg_ret, vg_loop, vcallF, vcallH, uls, HdelK, memN, noBox, ninL, keysH, jsAt, AdSub, adopt, noEl, isNil, effL, effO, vopsD, vquiet, vfstD, ldq, ldOk, vops, vfst, vone, vact, ug, addL, vbox, valloc, vstore, vbuild, arrF, vbuildSlice, vappend, vmake, zeroS, zeroE, vstrB, apC, nrm, nr1, nrL, keyL, neqs, diffs, V.app, V.len, vsrc, vdst, mkSl, mkBy, inOrd, placeAll, V.one, V.sto, V.csize, V.parts, V.cellsL, setMany, V.setB, V.setE, V.setO, V.noOwn, V.isOwn, vq, vcall, fzA, fz, fz1, fzL, fzN, rts, rt1, V.er, er1, er2, mixA, mixK, uargs, u1, R.add, vop, vbin, vint2, vstr2, vbool2, vnum, vun, vpick, vpick1, vbool, vconv, vnil, vfieldAddr, vindexAddr, vstEq, vindex, vload, vfield, aggD, vslice, bnd, uopt, vlen, vmin, vextract, Hpk, Hroot, refV, ownR, V.i, V.elems, V.cell, V.cut, V.exact, V.ex0, exL, V.cl, clL, V.sc, scL, scO, scH, V.ct, ct1, ct2, RetP, RetK, RetH, retL, retOne, Back, Veq, subH, obs, obsIf, En.get, En.put, En.ev, enOf, gcond, wantB, constV, exGet, subE, Sub, RV, RVL, NR, RO, subER, subHR, newLt, oldNe, oldOk, oldGe, notIn, ivN, lookN, SubR, Nm.root, Nat.reduceMul, Nat.reduceLeDiff, Nat.reduceEqDiff, Nat.reduceLT, Nat.reduceAdd, Nat.reduceSub, ↓reduceIte, implies_true, reduceCtorEq, ne_eq, ↓shr_eq, IntKind.bits, Int.reduceToNat, Int.reducePow, dite_eq_ite, Value.oneCell', Nat.reduceBEq, Nat.reduceDiv, bnS, bnN, bnT, jsB, lwB, ndsV, ndD, ndV])
  refine wp_cond_split he (fun hc => ?_) (fun hc => ?_)
  · rw [sZt_eq]
    refine wp_pc (G := GS x0.w.heap.size M) (GS_ok _ _) rfl (hbx M) hm (by show okC x0.n _ = true; rw [hn]; kernel_rfl) (p7_ok x0.w.heap.size M v ls rr (hbad hc)) hs1 (fun s' F2 a2 w2 h2 hs2 => ?_) (fun s F a w h hs => hR M s F a w h hs) (fun _ _ h => by simp [exGet] at h)
    obtain ⟨hsub, hl2⟩ := h2
    refine wp_pc (G := GS x0.w.heap.size M) (GS_ok _ _) rfl (hbx M) hm (by show okC x0.n _ = true; rw [hn]; kernel_rfl) (p8_ok x0.w.heap.size M v ls) (hs2.sub hsub) (fun s' F3 a3 w3 h3 hs3 => ?_) (fun _ _ _ _ h => h.elim) (fun _ _ h => by simp [exGet] at h)
    rw [sZt2_eq]
    refine wp_seq ?_
    refine wp_pc (G := GS x0.w.heap.size M) (GS_ok _ _) rfl (hbx M) hm (by show okC x0.n _ = true; rw [hn]; kernel_rfl) (p9_ok x0.w.heap.size M v ls) (hs3.sub h3) (fun s' F4 a4 w4 h4 hs4 => ?_) (fun _ _ _ _ h => h.elim) (fun _ _ h => by simp [exGet] at h)
    have hs4 := hs4.sub h4
    have he : a4.eval (.tmp 91) = .bool (n.kind == 7) := rep_bb (hs4.env 91 _ rfl).2
    have hs4 := hs4.sub (t := s3 v i n ls none) (by simp only [eqC, vlook, vmark, seqN, sameBox, boxJs, vquietR, vopsR, RetC, retW, cellR, undV, vgA, vbinN, vnn, isNilC, isIf, vconvH, vconvO, cvOk, frz1, frzE, jsOk, jsCo, rowsH, vgcH, vgH, vopsT, stepE, Kseq_app, vg_skip, vg_label, vg_seq, vg_region, vg_cond, vg_block, vg_exit, vg_ret, vg_loop, vcallF, vcallH, uls, HdelK, memN, noBox, ninL, keysH, jsAt, AdSub, adopt, noEl, isNil, effL, effO, vopsD, vquiet, vfstD, ldq, ldOk, vops, vfst, vone, vact, ug, addL, vbox, valloc, vstore, vbuild, arrF, vbuildSlice, vappend, vmake, zeroS, zeroE, vstrB, apC, nrm, nr1, nrL, keyL, neqs, diffs, V.app, V.len, vsrc, vdst, mkSl, mkBy, inOrd, placeAll, V.one, V.sto, V.csize, V.parts, V.cellsL, setMany, V.setB, V.setE, V.setO, V.noOwn, V.isOwn, vq, vcall, fzA, fz, fz1, fzL, fzN, rts, rt1, V.er, er1, er2, mixA, mixK, uargs, u1, R.add, vop, vbin, vint2, vstr2, vbool2, vnum, vun, vpick, vpick1, vbool, vconv, vnil, vfieldAddr, vindexAddr, vstEq, vindex, vload, vfield, aggD, vslice, bnd, uopt, vlen, vmin, vextract, Hpk, Hroot, refV, ownR, V.i, V.elems, V.cell, V.cut, V.exact, V.ex0, exL, V.cl, clL, V.sc, scL, scO, scH, V.ct, ct1, ct2, RetP, RetK, RetH, retL, retOne, Back, Veq, subH, obs, obsIf, En.get, En.put, En.ev, enOf, gcond, wantB, constV, exGet, subE, Sub, RV, RVL, NR, RO, subER, subHR, newLt, oldNe, oldOk, oldGe, notIn, ivN, lookN, SubR, Nm.root, Nat.reduceMul, Nat.reduceLeDiff, Nat.reduceEqDiff, Nat.reduceLT, Nat.reduceAdd, Nat.reduceSub, ↓reduceIte, implies_true, reduceCtorEq, ne_eq, ↓shr_eq, IntKind.bits, Int.reduceToNat, Int.reducePow, dite_eq_ite, Value.oneCell', Nat.reduceBEq, Nat.reduceDiv, bnS, bnN, bnT, jsB, lwB, ndsV, ndD, ndV])
    refine wp_cond_split he (fun hd => ?_) (fun hd => ?_)
    · refine s18_ok hn hs4 fun b F5 a5 w5 hfr hs5 => ?_
      refine s19_ok hn hb hs5 hl2 fun F6 a6 w6 hs6 => ?_
      have hne : ∀ l ∈ ls, l.blk ≠ some b := fun l hl e => by
        obtain ⟨ks, hM⟩ := hg.dom l hl b e
        exact hfr ks hM
      refine hQ _ _ F6 a6 w6 (fun _ => hl2) ((hg.set (Nat.zero_le _)).push hkid (fun c hc => ?_) fun c hc l hl e => ?_) (by simp; omega) ?_ hs6
      · obtain rfl := Option.some.inj hc
        exact ⟨[], by simp [setM]⟩
      · obtain rfl := Option.some.inj hc
        exact hne l hl e
      · rw [absL_snoc, absL_congr (M := M) (ls := ls) (fun l hl c hc => by
          unfold setM
          rw [if_neg (fun e => hne l hl (by rw [hc, e]))]), if_pos hc, if_pos (by simpa using hd)]
        simp [setM]
    · refine wp_skip ?_
      refine s19_ok hn hb hs4 hl2 fun F6 a6 w6 hs6 => ?_
      refine hQ _ _ F6 a6 w6 (fun _ => hl2) (hg.push hkid (fun c hc => by cases hc) fun c hc => by cases hc) (by simp; omega) ?_ hs6
      rw [absL_snoc, if_pos hc, if_neg (by simpa using hd)]
      rfl
  · refine wp_skip ?_
    obtain ⟨F2, hs2⟩ := hs1.ren (b := 0) (σ := [(0, 0)]) (t := sH v i ls) (fun m _ => hb m) (by simp only [eqC, vlook, vmark, seqN, sameBox, boxJs, vquietR, vopsR, RetC, retW, cellR, undV, vgA, vbinN, vnn, isNilC, isIf, vconvH, vconvO, cvOk, frz1, frzE, jsOk, jsCo, rowsH, vgcH, vgH, vopsT, stepE, Kseq_app, vg_skip, vg_label, vg_seq, vg_region, vg_cond, vg_block, vg_exit, vg_ret, vg_loop, vcallF, vcallH, uls, HdelK, memN, noBox, ninL, keysH, jsAt, AdSub, adopt, noEl, isNil, effL, effO, vopsD, vquiet, vfstD, ldq, ldOk, vops, vfst, vone, vact, ug, addL, vbox, valloc, vstore, vbuild, arrF, vbuildSlice, vappend, vmake, zeroS, zeroE, vstrB, apC, nrm, nr1, nrL, keyL, neqs, diffs, V.app, V.len, vsrc, vdst, mkSl, mkBy, inOrd, placeAll, V.one, V.sto, V.csize, V.parts, V.cellsL, setMany, V.setB, V.setE, V.setO, V.noOwn, V.isOwn, vq, vcall, fzA, fz, fz1, fzL, fzN, rts, rt1, V.er, er1, er2, mixA, mixK, uargs, u1, R.add, vop, vbin, vint2, vstr2, vbool2, vnum, vun, vpick, vpick1, vbool, vconv, vnil, vfieldAddr, vindexAddr, vstEq, vindex, vload, vfield, aggD, vslice, bnd, uopt, vlen, vmin, vextract, Hpk, Hroot, refV, ownR, V.i, V.elems, V.cell, V.cut, V.exact, V.ex0, exL, V.cl, clL, V.sc, scL, scO, scH, V.ct, ct1, ct2, RetP, RetK, RetH, retL, retOne, Back, Veq, subH, obs, obsIf, En.get, En.put, En.ev, enOf, gcond, wantB, constV, exGet, subE, Sub, RV, RVL, NR, RO, subER, subHR, newLt, oldNe, oldOk, oldGe, notIn, ivN, lookN, SubR, Nm.root, Nat.reduceMul, Nat.reduceLeDiff, Nat.reduceEqDiff, Nat.reduceLT, Nat.reduceAdd, Nat.reduceSub, ↓reduceIte, implies_true, reduceCtorEq, ne_eq, ↓shr_eq, IntKind.bits, Int.reduceToNat, Int.reducePow, dite_eq_ite, Value.oneCell', Nat.reduceBEq, Nat.reduceDiv, bnS, bnN, bnT, jsB, lwB, ndsV, ndD])
    refine hQ M ls F2 a1 w1 (fun h => by rw [hc] at h; cases h) hg hl ?_ hs2
    rw [if_neg (by rw [hc]; decide)]
end
/-- json.Shaped is what its nodes say. -/
theorem jShaped_fn (J : Inv) (hJ : ∀ w F, J.I w F → JU.I w F) : ShOk J := fun v hv => by
  refine Fn.of_plain (nx := 8) (post := []) ?_ rfl
  have hm : Tryd.prog.follows .mixedOrders = true := by kernel_rfl
  have hwell := shF_well (pl := plainF) (ut := Lib.validD) plainF_kids v
  generalize wellF (pl := plainF) (ut := Lib.validD) v = rr at *
  refine fnH_wp Tryd.func9 sB_eq (by kernel_rfl) (Nat.le_of_ble_eq_true (by kernel_rfl)) fun w0 F0 a0 Q hM hs0 hK => ?_
  have hres : (Tryd.f9).results.toList = [.tmp 2] := by kernel_rfl
  rw [hres] at hK
  have hb0 : ∀ m : Nm, F0.O m = none ∧ F0.W m = none := fun m => hM.nx m (Nat.zero_le _)
  obtain ⟨x0, hx0⟩ : ∃ x0, x0 = fx0 J w0 F0 [] (Tryd.f9).ntmps := ⟨_, rfl⟩
  have hn : x0.n = (Tryd.f9).ntmps := by rw [hx0]
  have hb : ∀ m : Nm, x0.C.O m = none ∧ x0.C.W m = none := by rw [hx0]; exact hb0
  have hR : ∀ M s F a w, RS rr s → Sat (xM x0 M) s F a w → Q .ret a w := fun M s F a w h hs => by
    refine hK.ret s F a w h ?_
    have hI : J.I w F.F := by
      subst hx0
      exact J.out hM.inv hs.ev.size (fun b hb hn => hs.ev.block b hb fun ⟨k, ob, hk, _⟩ => by cases k <;> simp [Hget, Hroot, Hchild] at hk) hs.le.le1
    have := hs.withJ hI
    rw [hx0] at this
    exact this
  have hs1 : Sat (xM x0 fun _ => none) ⟨enOf 0 [ndsV v], [], 0⟩ F0 a0 w0 := by
    rw [hx0]
    exact hs0.withJ ⟨hJ _ _ hs0.inv, fun b ks h => by cases h⟩
  clear hs0 hK hM hx0
  have hbx : ∀ M, ∀ m : Nm, (GS x0.w.heap.size M).b ≤ m.root → (xM x0 M).C.O m = none ∧ (xM x0 M).C.W m = none := fun M m _ => hb m
  have ok : ∀ c, okC (Tryd.f9).ntmps c = true → ∀ M, okC (xM x0 M).n c = true := fun c h M => by
    show okC x0.n c = true
    rw [hn]; exact h
  refine wp_pc (GS_ok _ _) rfl (hbx _) hm (ok _ (by kernel_rfl) _) (p0_ok x0.w.heap.size (fun _ => none) v) hs1 (fun s2 F2 a2 w2 h2 hs2 => ?_) (fun _ _ _ _ h => h.elim) (fun _ _ h => by simp [exGet] at h)
  refine wp_pc (GS_ok _ _) rfl (hbx _) hm (ok _ (by kernel_rfl) _) h2 hs2 (fun s3 F3 a3 w3 h3 hs3 => ?_) (fun _ _ _ _ h => h.elim) (fun _ _ h => by simp [exGet] at h)
  refine wp_seq ?_
  refine wp_pc (GS_ok _ _) rfl (hbx _) hm (ok _ (by kernel_rfl) _) h3 hs3 (fun s4 F4 a4 w4 h4 hs4 => ?_) (fun _ _ _ _ h => h.elim) (fun _ _ h => by simp [exGet] at h)
  have hs4 := hs4.sub h4
  clear hs1 hs2 hs3 h2 h3 h4
  have hG0 : Good (fun _ => none) [⟨1, none⟩] 0 := by
    refine ⟨fun l hl b hb => ?_, by simp, fun l hl => ?_, fun b ks h => by cases h⟩
    · obtain rfl : l = ⟨1, none⟩ := by simpa using hl
      cases hb
    · obtain rfl : l = ⟨1, none⟩ := by simpa using hl
      simp
  refine wp_block ?_
  refine wp_loop_ghost (fun m a w => ∃ i M ls F, m = v.length - i ∧ i ≤ v.length ∧ Good M ls i ∧ ls.length ≤ 33 ∧ (∀ l0 t, ls = l0 ++ [t] → t.left ≠ 0) ∧ shF plainF Lib.validD (v.drop i) (absL M ls) = rr ∧ Sat (xM x0 M) (sH v i ls) F a w) v.length
    ⟨0, fun _ => none, [⟨1, none⟩], F4, rfl, Nat.zero_le _, hG0, by simp, fun l0 t e => ?_, hwell, hs4⟩ ?_
  · have := congrArg topL e
    rw [topL_snoc] at this
    rw [← this]; decide
  clear hs4 hwell
  rintro m a w ⟨i, M, ls, F, rfl, hi, hg, hl, ht, hsh, hs⟩
  rw [sI_eq]
  have h1 := p1_ok x0.w.heap.size M v (i := i) ls
  have hex : ∀ id k, exGet [(0, fun s' => Sub s' (sH v i ls) ∧ v.length ≤ i)] id = some k → ∀ s F a w, k s → Sat (xM x0 M) s F a w → ∀ K, Exit.then K (Exit.inBlock 0 (Exit.then (sT.wp Tryd.prog Q) Q)) (.exit id) a w := fun id k hid s F a w hk hs K => by
    simp only [exGet] at hid
    split at hid
    · rename_i e; subst e
      obtain rfl := Option.some.inj hid
      obtain ⟨hsub, h0⟩ := hk
      show sT.wp Tryd.prog Q a w
      refine vg_ok (GS_ok _ _) rfl (hbx _) hm _ _ _ _ F a w (ok _ (by kernel_rfl) _) (p14_ok x0.w.heap.size M v (i := i) ls) ⟨fun _ _ _ _ h => h.elim, fun s F a w h hs => ?_, fun _ _ h => by simp [exGet] at h⟩ (hs.sub hsub)
      rw [List.drop_eq_nil_of_le h0] at hsh
      have e : ls.isEmpty = rr := by
        rw [← hsh, shF]
        cases ls with
        | nil => rfl
        | cons x r =>
          have : (absL M (x :: r)).length = (x :: r).length := absL_len M _
          cases h : absL M (x :: r) with
          | nil => rw [h] at this; simp at this
          | cons _ _ => rfl
      rw [e] at h
      exact hR M s F a w h hs
    · cases hid
  refine wp_pc (ex := [(0, fun s' => Sub s' (sH v i ls) ∧ v.length ≤ i)]) (GS_ok _ _) rfl (hbx _) hm (ok _ (by kernel_rfl) _) h1 hs (fun s5 F5 a5 w5 h5 hs5 => ?_) (fun _ _ _ _ h => h.elim) (fun id k hid s F a w hk hs => hex id k hid s F a w hk hs _)
  refine wp_pc (ex := [(0, fun s' => Sub s' (sH v i ls) ∧ v.length ≤ i)]) (GS_ok _ _) rfl (hbx _) hm (ok _ (by kernel_rfl) _) h5 hs5 (fun s6 F6 a6 w6 h6 hs6 => ?_) (fun _ _ _ _ h => h.elim) (fun id k hid s F a w hk hs => hex id k hid s F a w hk hs _)
  obtain ⟨hsub, hlt⟩ := h6
  have hs6 := hs6.sub hsub
  clear hs hs5 h5 hsub h1 hex
  have hlen := hv.1
  obtain ⟨n, hnd⟩ : ∃ n, n = v.getD i default := ⟨_, rfl⟩
  rw [nd_drop hlt, ← hnd, shF] at hsh
  have hkey := (hv.at hlt).1
  rw [← hnd] at hkey
  have hmem : n ∈ v := by
    rw [hnd, List.getD_eq_getElem?_getD, List.getElem?_eq_getElem hlt, Option.getD_some]
    exact List.getElem_mem hlt
  have hkid := hv.kid n hmem
  refine wp_seq (wp_block ?_)
  have h2 := p2_ok x0.w.heap.size M v (i := i) ls (n := n) hv hlt hnd hl hg.lf rr (fun hbad => by
    rw [← hsh]
    rcases hbad with h | h
    · subst h; rfl
    · cases hst : absL M ls with
      | nil => rfl
      | cons x r =>
        obtain ⟨l, nm⟩ := x
        rw [stepF, if_pos (by rw [badF_bd, h]; rfl)])
  refine wp_pc (GS_ok _ _) rfl (hbx _) hm (ok _ (by kernel_rfl) _) h2 hs6 (fun s7 F7 a7 w7 h7 hs7 => ?_) (fun s F a w h hs => hR M s F a w h hs) (fun _ _ h => by simp [exGet] at h)
  refine wp_pc (GS_ok _ _) rfl (hbx _) hm (ok _ (by kernel_rfl) _) h7 hs7 (fun s8 F8 a8 w8 h8 hs8 => ?_) (fun s F a w h hs => hR M s F a w h hs) (fun _ _ h => by simp [exGet] at h)
  refine wp_pc (GS_ok _ _) rfl (hbx _) hm (ok _ (by kernel_rfl) _) h8 hs8 (fun s9 F9 a9 w9 h9 hs9 => ?_) (fun s F a w h hs => hR M s F a w h hs) (fun _ _ h => by simp [exGet] at h)
  refine wp_pc (GS_ok _ _) rfl (hbx _) hm (ok _ (by kernel_rfl) _) h9 hs9 (fun s10 F10 a10 w10 h10 hs10 => ?_) (fun s F a w h hs => hR M s F a w h hs) (fun _ _ h => by simp [exGet] at h)
  obtain ⟨hsub, hne, hpl⟩ := h10
  have hs10 := hs10.sub hsub
  clear hs6 hs7 hs8 hs9 h2 h7 h8 h9 hsub
  obtain ⟨l0, t, rfl⟩ := snoc_of hne
  have ht0 := ht l0 t rfl
  have htl := hg.lf t (by simp)
  rw [decL_snoc] at hs10
  rw [absL_snoc, stepF, badF_bd, hpl, Bool.not_true, Bool.false_or] at hsh
  rw [sX4_eq]
  refine wp_seq ?_
  refine sY_ok hn hb (t := ⟨t.left - 1, t.blk⟩) (rr := rr) hs10 (hg.dec (by omega)) (by omega) hkey (fun hbd => ?_) (fun M s F a w h hs => hR M s F a w h hs) fun M1 F11 a11 w11 hbd hg1 hab hs11 => ?_
  · rw [if_pos hbd] at hsh
    exact hsh.symm
  · rw [if_neg (by rw [hbd]; decide)] at hsh
    refine wp_seq ?_
    refine sZ_ok hn hb (rr := rr) (k := i + 1) hs11 hg1 (by simpa using hl) ⟨(plainF_kids n hpl).1, hkid⟩ (fun hc h32 => ?_) (fun M s F a w h hs => hR M s F a w h hs) fun M2 ls2 F12 a12 w12 h32 hg2 hl2 hab2 hs12 => ?_
    · rw [if_pos hc, if_pos (by rw [absL_len]; simpa using h32)] at hsh
      exact hsh.symm
    · refine sW_ok hn hb (k := i + 1) hs12 hg2 hl2 fun ls3 F13 a13 w13 hg3 hl3 ht3 hab3 hs13 => ?_
      show (jR (jR (jR sI))).wp Tryd.prog _ a13 w13
      refine vg_ok (GS_ok _ _) rfl (hbx _) hm _ _ _ _ F13 a13 w13 (ok _ (by kernel_rfl) _) (p13_ok x0.w.heap.size M2 v ls3 (by omega)) ⟨fun s F a w h hs => ?_, fun _ _ _ _ h => h.elim, fun _ _ h => by simp [exGet] at h⟩ hs13
      refine ⟨v.length - (i + 1), by omega, i + 1, M2, ls3, F, rfl, hlt, hg3, hl3, ht3, ?_, hs.sub h⟩
      rw [hab3, hab2, hab]
      by_cases hc : isC n = true
      · rw [if_pos hc]
        rw [if_pos hc, if_neg (by have := h32 hc; rw [absL_len]; simp at this; omega)] at hsh
        exact hsh
      · rw [if_neg hc]
        rw [if_neg hc] at hsh
        exact hsh
end Go.Proofs.YtbjfhnbgiajnjaaDoor
