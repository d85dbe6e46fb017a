/- json.Shaped: the walk; the two operations on maps by hand. -/
import Derived.Test.YtbjfhnbgiajnjaaDoorJMap
import Derived.Test.YtbjfhnbgiajnjaaDoorJBo2
namespace Go.Proofs.YtbjfhnbgiajnjaaDoor
open Go.RowKit
set_option linter.unusedSimpArgs false
set_option maxRecDepth 100000
def chkZ (ops : Array Oper) (z : Nat) : List Nat → Array Bool → Bool
  | [], _ => true
  | i :: r, listed => chkA ops (aft ops i) i listed && (aft ops i).contains z && (Region.free .any ops listed i && (Region.ready .any ops listed).contains i) && chkZ ops z r (listed.setIfInBounds i true)
def doneZ (l : Array Bool) : List Nat → Array Bool
  | [] => l
  | i :: r => doneZ (l.setIfInBounds i true) r
def Sz (z B : Nat) (h : List (Nat × Ob)) (F : Cx) (j : Nat) (w1 w2 : World) : Prop := j ≠ z → Kbr B true [] h F w1 w2
/-- In a drawn statement: what stands ahead of the last operation, z, which all else waits for. -/
theorem vopsR_pre {P : Program} {G : Sig} {x : Fx} (hJ : x.J = G.J) {z : Nat} {ops : Array Oper} {Q : Exit → Act → World → Prop} {K : S → Prop} (hQ : ∀ c a w, ¬ Q (.panic c) a w) (hsel : Region.noSelect ops = true) (hd : dstsOk x.n ops.toList) :
    ∀ (sch : List Nat) (s : S) (F : Cx) (a : Act) (w : World) (listed : Array Bool) (fuel : Nat), chkZ ops z sch listed = true → vopsR P G [] [] ops.toList K (sch.map fun i => (i, some (true, []))) s → Sat x s F a w →
      (∀ s' a', K s' → s'.h = s.h → Sat x s' F a' w → wpAnyG P .any ops Q (Sz z w.heap.size s.h F) fuel (doneZ listed sch) a' w) → wpAnyG P .any ops Q (Sz z w.heap.size s.h F) (fuel + sch.length) listed a w := by
  intro sch
  induction sch with
  | nil =>
    intro s F a w listed fuel hc h hs hK
    exact hK s a h rfl hs
  | cons i r ih =>
    intro s F a w listed fuel hc h hs hK
    simp only [List.map_cons, vopsR] at h
    split at h
    · exact h.elim
    · rename_i o ho
      have ho' : ops[i]? = some o := by simpa using ho
      have hdo : ∀ k, o.dst = some k → k < x.n := hd o (List.mem_of_getElem? ho)
      simp only [chkZ, Bool.and_eq_true] at hc
      have key : ∃ g l s', vquietR P G.J.gl true [] ops.toList s o = some (g, l, s') ∧ (g = none ∨ g = some true → AllP l) ∧ vopsR P G [] [] ops.toList K (r.map fun i => (i, some (true, []))) s' := by
        split at h
        · rename_i l s' hv
          rw [obs_iff] at h
          exact ⟨_, _, _, hv, fun _ => h.1, h.2⟩
        · rename_i g l s' hv
          rw [obsIf_iff] at h
          exact ⟨_, _, _, hv, fun e => h.1 (by rcases e with e | e; cases e; simpa using e), h.2⟩
        · exact h.elim
      obtain ⟨g, l, s', hv, hl, hr⟩ := key
      obtain ⟨y, hy, hs', hh⟩ := vquietR_ok (by rw [hJ]; exact hv) hs hdo hl
      obtain ⟨⟨⟨hA, hz⟩, hfree, hready⟩, hrest⟩ := hc
      have hAs := List.all_eq_true.1 hA
      refine wpAnyG_first (C := Kp true [] s.h F w) (aft ops i) ho' (Region.noSelect_spec hsel) (fun c a w h => absurd h (hQ _ _ _)) (fun j hj hne oj hoj => ?_) (fun j hj w1 w2 k1 k2 => Kp.kbr k1 (k2 fun e => hj (by subst e; simpa using hz)) (fun _ h => h) fun _ => rfl) (fun w1 _ => ⟨Kb.refl _ _ _ _ _, fun _ _ _ => rfl⟩) (fuel + r.length) listed a w (Region.free_spec ho' hfree) (fun j hj => ?_) (by simpa using hready) hy (Kp.refl _ _ _ _ _) ?_
      · have := hAs j hj
        simp only [Bool.and_eq_true, Bool.or_eq_true, beq_iff_eq, hne, false_or, hoj] at this
        obtain ⟨e, he, h1⟩ := Array.any_eq_true'.1 this.2
        simp only [Bool.and_eq_true] at h1
        exact ⟨e, he, h1.1, by simpa using h1.2⟩
      · have := hAs j hj
        simp only [Bool.and_eq_true] at this
        simpa using this.1
      have := ih s' F _ w _ fuel hrest hr hs' (fun s2 a2 h1 h2 h3 => by
        rw [hh]
        exact hK s2 a2 h1 (h2.trans hh) h3)
      rw [hh] at this
      exact this
/-! ## The code's pieces -/
def jD : Code → Code
  | .cond _ _ b => b
  | c => c
noncomputable def sB : Code := (Tryd.f9).body.getD .skip
noncomputable def sL : Code := jL (jR (jR sB))
noncomputable def sT : Code := jR (jR (jR sB))
noncomputable def sI : Code := jR (jR (jR sL))
noncomputable def sX : Code := jR (jL (jR (jR sI)))
noncomputable def sX4 : Code := jR (jR (jR (jR sX)))
noncomputable def sY : Code := jR (jL sX4)
noncomputable def sZ : Code := jL (jR sX4)
noncomputable def sW : Code := jR (jR (jR (jR sX4)))
noncomputable def sE : Code := jD (jR sY)
noncomputable def s12 : Code := jC (jR sE)
noncomputable def sZt : Code := jC (jR sZ)
noncomputable def sZt2 : Code := jR (jR sZt)
noncomputable def s18 : Code := jC (jR (jL sZt2))
theorem sB_eq : (Tryd.f9).body = some (.seq (jL sB) (.seq (jL (jR sB)) (.seq (.seq (jL sL) (.block 0 (.loop sI))) sT))) := by kernel_rfl
theorem sI_eq : sI = .seq (jL sI) (.seq (jL (jR sI)) (.seq (.block 1 (.seq (jL sX) (.seq (jL (jR sX)) (.seq (jL (jR (jR sX))) (.seq (jL (jR (jR (jR sX)))) sX4))))) (jR (jR (jR sI))))) := by kernel_rfl
theorem sX4_eq : sX4 = .seq (.block 2 sY) (.seq sZ (.block 3 (.loop sW))) := by kernel_rfl
theorem sY_eq : sY = .seq (jL sY) (.cond (.tmp 36) (jC (jR sY)) sE) := by kernel_rfl
theorem sE_eq : sE = .seq (jL sE) (.cond (.tmp 63) s12 .skip) := by kernel_rfl
theorem sZ_eq : sZ = .seq (jL sZ) (.cond (.tmp 82) sZt .skip) := by kernel_rfl
theorem sZt_eq : sZt = .seq (jL sZt) (.seq (jL (jR sZt)) sZt2) := by kernel_rfl
theorem sZt2_eq : sZt2 = .seq (.seq (jL (jL sZt2)) (.cond (.tmp 91) s18 .skip)) (jR sZt2) := by kernel_rfl
theorem sW_eq : sW = .seq (jL sW) (.block 4 (jR (jR sW))) := by kernel_rfl
/-! ## What stands at a round's head, and within it -/
abbrev lvT : TypeId := 42
abbrev ndT : TypeId := 36
abbrev lvD : V := .st [.val (.int .i64 0), .val (.map none)]
abbrev sH (v : List Nd) (i : Nat) (ls : List Lw) : S := ⟨[(12, .i i), (11, .i v.length), (10, ndsV v), (3, .ro (.r 0))], [(0, .row lvT (.sq 2 lvD (lws ls)))], 1⟩
abbrev s1 (v : List Nd) (i : Nat) (n : Nd) (ls : List Lw) : S := ⟨[(6, .rp (.r 0) 2 (ls.length - 1) 0), (5, .op 1 0), (12, .i i), (11, .i v.length), (10, ndsV v), (3, .ro (.r 0))], [(0, .row lvT (.sq 2 lvD (lws ls))), (1, .box ndT (ndV n))], 2⟩
def GSf : FuncId → List V → Option (List Prop × Bool × V) := fun f args =>
  if f = 13 then match args with
    | [.st [.val (.int .i64 a), .str k, .str t, .bb w, .val (.int .i64 b), .val (.int .i64 c)]] => some ([t.length ≤ 1073741824], false, .bb (plainF ⟨a, k, t, w, b, c⟩))
    | _ => none
  else if f = 14 then match args with
    | [.str s] => some ([s.length ≤ 1073741824], false, .bb (Lib.validD s))
    | _ => none
  else none
noncomputable def GS (base : Nat) (M : Names) : Sig := ⟨JM base M, ldf, GSf, noH, 0⟩
theorem GS_ok (base : Nat) (M : Names) : SigOk Tryd.prog (GS base M) := by
  refine .plain fun f args l fr r h hl => ?_
  change GSf f args = some (l, fr, r) at h
  unfold GSf at h
  split at h
  · rename_i hf; subst hf
    split at h
    · obtain ⟨rfl, rfl, rfl⟩ := jsome_tri h; exact plain_fn _ (JM_JU base M) ⟨_, _, _, _, _, _⟩ (hl _ (by simp))
    · exact absurd h (by simp)
  · split at h
    · rename_i hf; subst hf
      split at h
      · obtain ⟨rfl, rfl, rfl⟩ := jsome_tri h; exact valid8_fn _ (JM_JU base M) _ (hl _ (by simp))
      · exact absurd h (by simp)
    · exact absurd h (by simp)
theorem JM_gl (base : Nat) (M : Names) : (JM base M).gl = ⟨fun _ => none, some Tryd.prog, lkM M⟩ := rfl
def setM (M : Names) (b : Nat) (ks : List (List UInt8)) : Names := fun c => if c = b then some ks else M c
theorem JU_mapd {w w' : World} {F : Nat → Prop} {g : Nat} (h : JU.I w F) (hm : Mapd g w w') : JU.I w' F := by
  obtain ⟨⟨h1, h2⟩, h3, h4, h5, h6⟩ := h
  have := hm.size
  exact ⟨⟨fun c hc => hm.cell (h1 c hc), fun i hi => ⟨hm.cell (h2 i hi).1, hm.cell (h2 i hi).2⟩⟩, by omega, by omega, h5, h6⟩
section
variable {x0 : Fx} {F : Cx} {w : World} {a : Act} {M : Names}
noncomputable abbrev xM (x0 : Fx) (M : Names) : Fx := x0.withJ (JM x0.w.heap.size M)
/-- A name is put into a level's map. -/
theorem s12_ok (hn : x0.n = (Tryd.f9).ntmps) {v : List Nd} {i : Nat} {n : Nd} {ls : List Lw} {b : Nat} {ks : List (List UInt8)} {Q : Exit → Act → World → Prop} (hs : Sat (xM x0 M) (s1 v i n ls) F a w) (h1 : ls ≠ []) (hb : (ls.getD (ls.length - 1) default).blk = some b) (hM : M b = some ks) (hk : n.key.length ≤ 1073741824) (hl : ks.length ≤ 1073741824)
    (hQ : ∀ a w, Sat (xM x0 (setM M b (ks ++ [n.key]))) (s1 v i n ls) F a w → Q .normal a w) : s12.wp Tryd.prog Q a w := by
  have hm : Tryd.prog.follows .mixedOrders = true := by kernel_rfl
  have hlen : 0 < ls.length := List.length_pos_iff.2 h1
  have hT : Tryd.prog.underlying 40 = some (.map 9 3) := Tryd.underlying40
  have hK : Maps.Keyed Tryd.prog 9 := Maps.string_keyed Tryd.underlying9
  have hkey : keyOf Tryd.prog 9 (.string ⟨n.key.toArray⟩) = some (.string n.key) := by
    have := WideMaps.keyOf_string_mk (P := Tryd.prog) Tryd.underlying9 (s := ⟨n.key.toArray⟩) (by simp [ByteArray.size, Go.maxLen]; omega)
    simpa using this
  simp only [s12, sE, sY, sX4, sX, sI, sL, sB, jL, jR, jC, jD, Tryd.f9, Option.getD_some]
  refine Code.wp_mono (fun e a w h => ?_) (wp_region_any (Q := fun e a w => e = .normal ∧ Q .normal a w) hm (wpAny_of_G (S := Sz 6 w.heap.size (s1 v i n ls).h F) _ _ _ _ ?_))
  · obtain ⟨rfl, h⟩ := h; exact h
  have hs0 : Sat (xM x0 M) (s1 v i n ls) F a { w with drawn := w.drawn + 1 } := hs.ext' (Ext.drawn w _)
  refine vopsR_pre (x := xM x0 M) (G := GS x0.w.heap.size M) rfl (z := 6) (K := fun s' => Sub s' ⟨[(72, .val (.map (some b))), (74, .str n.key), (6, .rp (.r 0) 2 (ls.length - 1) 0), (5, .op 1 0), (12, .i i), (11, .i v.length), (10, ndsV v), (3, .ro (.r 0))], (s1 v i n ls).h, 2⟩) (fun c a w h => by simp at h) (by kernel_rfl) (by show dstsOk x0.n _; rw [hn]; exact dsts_of (by kernel_rfl)) [0, 1, 2, 3, 4, 5] (s1 v i n ls) F a _ _ 1 (by kernel_rfl) ?_ hs0 (fun s' a' hsub hh hs' => ?_)
  · simp only [eqC, vlook, vmark, seqN, sameBox, boxJs, vquietR, vopsR, RetC, retW, cellR, undV, vgA, vbinN, vnn, isNilC, isIf, vconvH, vconvO, cvOk, frz1, frzE, jsOk, jsCo, rowsH, vgcH, vgH, vopsT, stepE, Kseq_app, vg_skip, vg_label, vg_seq, vg_region, vg_cond, vg_block, vg_exit, vg_ret, vg_loop, vcallF, vcallH, uls, HdelK, memN, noBox, ninL, keysH, jsAt, AdSub, adopt, noEl, isNil, effL, effO, vopsD, vquiet, vfstD, ldq, ldOk, vops, vfst, vone, vact, ug, addL, vbox, valloc, vstore, vbuild, arrF, vbuildSlice, vappend, vmake, zeroS, zeroE, vstrB, apC, nrm, nr1, nrL, keyL, neqs, diffs, V.app, V.len, vsrc, vdst, mkSl, mkBy, inOrd, placeAll, V.one, V.sto, V.csize, V.parts, V.cellsL, setMany, V.setB, V.setE, V.setO, V.noOwn, V.isOwn, vq, vcall, fzA, fz, fz1, fzL, fzN, rts, rt1, V.er, er1, er2, mixA, mixK, uargs, u1, R.add, vop, vbin, vint2, vstr2, vbool2, vnum, vun, vpick, vpick1, vbool, vconv, vnil, vfieldAddr, vindexAddr, vstEq, vindex, vload, vfield, aggD, vslice, bnd, uopt, vlen, vmin, vextract, Hpk, Hroot, refV, ownR, V.i, V.elems, V.cell, V.cut, V.exact, V.ex0, exL, V.cl, clL, V.sc, scL, scO, scH, V.ct, ct1, ct2, RetP, RetK, RetH, retL, retOne, Back, Veq, subH, obs, obsIf, En.get, En.put, En.ev, enOf, gcond, wantB, constV, exGet, subE, Sub, RV, RVL, NR, RO, subER, subHR, newLt, oldNe, oldOk, oldGe, notIn, ivN, lookN, SubR, Nm.root, Nat.reduceMul, Nat.reduceLeDiff, Nat.reduceEqDiff, Nat.reduceLT, Nat.reduceAdd, Nat.reduceSub, ↓reduceIte, implies_true, reduceCtorEq, ne_eq, ↓shr_eq, IntKind.bits, Int.reduceToNat, Int.reducePow, dite_eq_ite, Value.oneCell', Nat.reduceBEq, Nat.reduceDiv, bnS, bnN, bnT, jsB, GS, GSf, JM_gl, List.map_cons, List.map_nil, lwB, ndV]
    refine ⟨by omega, ?_⟩
    rw [hb]
  · have hs2 := hs'.sub hsub
    have e72 : a'.eval (.tmp 72) = .map (some b) := rep_val (hs2.env 72 _ rfl).2
    have e74 : a'.eval (.tmp 74) = .string ⟨n.key.toArray⟩ := rep_str (hs2.env 74 _ rfl).2
    obtain ⟨i1, i2, i3⟩ := hs2.inv.2 b ks hM
    obtain ⟨w', hrun, r1, r2⟩ := i3.update hK hT (Nat.lt_of_le_of_lt hl (by simp [Go.maxLen])) hkey (plainElem_int (H := Unit) Tryd.underlying3 (a := 1) (by decide))
    have hmd : Mapd b { w with drawn := w.drawn + 1 } w' := by
      obtain ⟨es, c, hb, _⟩ := i3
      exact ⟨r2.os, r2.tape, r2.output, r2.size, fun b' h1 h2 => r2.block b' h1 (fun e => h2 (by simpa using e)), es, c, hb⟩
    have hI : (JM x0.w.heap.size (setM M b (ks ++ [n.key]))).I w' F.F := by
      refine ⟨JU_mapd hs2.inv.1 hmd, fun c ks' hc => ?_⟩
      unfold setM at hc
      split at hc
      · rename_i e; subst e
        obtain rfl := Option.some.inj hc
        refine ⟨i1, i2, ?_⟩
        show w'.ownsMap _ _ _ _ _ _
        rw [mapD_snoc, List.length_append]
        exact r1
      · rename_i e
        obtain ⟨j1, j2, j3⟩ := hs2.inv.2 c ks' hc
        exact ⟨j1, j2, j3.kept r2 (fun h => e (by simpa using h))⟩
    have hs3 := (hs2.mapd hmd i1 hI).sub (t := s1 v i n ls) (by simp only [eqC, vlook, vmark, seqN, sameBox, boxJs, vquietR, vopsR, RetC, retW, cellR, undV, vgA, vbinN, vnn, isNilC, isIf, vconvH, vconvO, cvOk, frz1, frzE, jsOk, jsCo, rowsH, vgcH, vgH, vopsT, stepE, Kseq_app, vg_skip, vg_label, vg_seq, vg_region, vg_cond, vg_block, vg_exit, vg_ret, vg_loop, vcallF, vcallH, uls, HdelK, memN, noBox, ninL, keysH, jsAt, AdSub, adopt, noEl, isNil, effL, effO, vopsD, vquiet, vfstD, ldq, ldOk, vops, vfst, vone, vact, ug, addL, vbox, valloc, vstore, vbuild, arrF, vbuildSlice, vappend, vmake, zeroS, zeroE, vstrB, apC, nrm, nr1, nrL, keyL, neqs, diffs, V.app, V.len, vsrc, vdst, mkSl, mkBy, inOrd, placeAll, V.one, V.sto, V.csize, V.parts, V.cellsL, setMany, V.setB, V.setE, V.setO, V.noOwn, V.isOwn, vq, vcall, fzA, fz, fz1, fzL, fzN, rts, rt1, V.er, er1, er2, mixA, mixK, uargs, u1, R.add, vop, vbin, vint2, vstr2, vbool2, vnum, vun, vpick, vpick1, vbool, vconv, vnil, vfieldAddr, vindexAddr, vstEq, vindex, vload, vfield, aggD, vslice, bnd, uopt, vlen, vmin, vextract, Hpk, Hroot, refV, ownR, V.i, V.elems, V.cell, V.cut, V.exact, V.ex0, exL, V.cl, clL, V.sc, scL, scO, scH, V.ct, ct1, ct2, RetP, RetK, RetH, retL, retOne, Back, Veq, subH, obs, obsIf, En.get, En.put, En.ev, enOf, gcond, wantB, constV, exGet, subE, Sub, RV, RVL, NR, RO, subER, subHR, newLt, oldNe, oldOk, oldGe, notIn, ivN, lookN, SubR, Nm.root, Nat.reduceMul, Nat.reduceLeDiff, Nat.reduceEqDiff, Nat.reduceLT, Nat.reduceAdd, Nat.reduceSub, ↓reduceIte, implies_true, reduceCtorEq, ne_eq, ↓shr_eq, IntKind.bits, Int.reduceToNat, Int.reducePow, dite_eq_ite, Value.oneCell', Nat.reduceBEq, Nat.reduceDiv, bnS, bnN, bnT, jsB, lwB, ndV])
    refine wpAnyG_all (i := 6) (by kernel_rfl) ?_
    unfold wpOp
    simp only [List.getElem?_toArray, List.getElem?_cons_succ, List.getElem?_cons_zero]
    rw [if_pos (by simp [Region.wanted])]
    refine .inl ?_
    unfold Oper.wp
    have ec : a'.eval (.const (.int .i64 1)) = .int .i64 1 := rfl
    simp only [execOp, e72, e74, ec, Sem.run_bind, hrun, Sem.run_pure, Result.andThen_ok]
    exact ⟨fun h => absurd rfl h, wpAnyG_done (by kernel_rfl) ⟨rfl, hQ _ _ hs3⟩ 0⟩
abbrev s3 (v : List Nd) (i : Nat) (n : Nd) (ls : List Lw) (q : Option Nat) : S := ⟨[(7, .op 2 0), (6, .rp (.r 0) 2 (ls.length - 1) 0), (5, .op 1 0), (12, .i i), (11, .i v.length), (10, ndsV v), (3, .ro (.r 0))], [(0, .row lvT (.sq 2 lvD (lws ls))), (1, .box ndT (ndV n)), (2, .box lvT (.st [.i n.kids, .val (.map q)]))], 3⟩
/-- A level's map is made. -/
theorem s18_ok (hn : x0.n = (Tryd.f9).ntmps) {v : List Nd} {i : Nat} {n : Nd} {ls : List Lw} {Q : Exit → Act → World → Prop} (hs : Sat (xM x0 M) (s3 v i n ls none) F a w)
    (hQ : ∀ b F a w, (∀ ks, M b ≠ some ks) → Sat (xM x0 (setM M b [])) (s3 v i n ls (some b)) F a w → Q .normal a w) : s18.wp Tryd.prog Q a w := by
  simp only [s18, sZt2, sZt, sZ, sX4, sX, sI, sL, sB, jL, jR, jC, Tryd.f9, Option.getD_some]
  refine wp_region_list ?_
  refine wpList_plain rfl fun K' hK' => ?_
  unfold Oper.wp
  simp only [execOp, Sem.run_bind, run_makeMap, Sem.run_pure, Result.andThen_ok]
  have hx : Ext w (w.alloc (.map #[] 0)) := (Ext.refl w).alloc _
  have hs1 := hs.ext' hx
  have hsz : x0.w.heap.size ≤ w.heap.size := hs.ev.size
  have hI : (JM x0.w.heap.size (setM M w.heap.size [])).I (w.alloc (.map #[] 0)) F.F := by
    refine ⟨hs1.inv.1, fun c ks' hc => ?_⟩
    unfold setM at hc
    split at hc
    · rename_i e; subst e
      obtain rfl := Option.some.inj hc
      exact ⟨hsz, fun hf => absurd (hs.flt _ hf) (Nat.lt_irrefl _), World.ownsMap_made w _ _ _⟩
    · exact hs1.inv.2 c ks' hc
  have hfresh : ∀ ks, M w.heap.size ≠ some ks := fun ks h => by
    have := (hs.inv.2 _ ks h).2.2.lt
    omega
  have hs2 := ((hs1.withJ hI).put (d := some 92) (v := .val (.map (some w.heap.size))) (fun k hk => by cases hk; show 92 < x0.n; rw [hn]; exact Nat.le_of_ble_eq_true (by kernel_rfl)) (.val _))
  refine hK' _ _ ?_
  refine vops_ok (G := GS x0.w.heap.size (setM M w.heap.size [])) (x := xM x0 (setM M w.heap.size [])) (K := Nxt (xM x0 (setM M w.heap.size [])) fun F a w => Q .normal a w) (GS_ok _ _) rfl (fun s' F' a' w' h' hs' => h' F' a' w' hs') _ _ F _ _ (by show dstsOk x0.n _; rw [hn]; exact dsts_of (by kernel_rfl)) ?_ hs2
  simp only [eqC, vlook, vmark, seqN, sameBox, boxJs, vquietR, vopsR, RetC, retW, cellR, undV, vgA, vbinN, vnn, isNilC, isIf, vconvH, vconvO, cvOk, frz1, frzE, jsOk, jsCo, rowsH, vgcH, vgH, vopsT, stepE, Kseq_app, vg_skip, vg_label, vg_seq, vg_region, vg_cond, vg_block, vg_exit, vg_ret, vg_loop, vcallF, vcallH, uls, HdelK, memN, noBox, ninL, keysH, jsAt, AdSub, adopt, noEl, isNil, effL, effO, vopsD, vquiet, vfstD, ldq, ldOk, vops, vfst, vone, vact, ug, addL, vbox, valloc, vstore, vbuild, arrF, vbuildSlice, vappend, vmake, zeroS, zeroE, vstrB, apC, nrm, nr1, nrL, keyL, neqs, diffs, V.app, V.len, vsrc, vdst, mkSl, mkBy, inOrd, placeAll, V.one, V.sto, V.csize, V.parts, V.cellsL, setMany, V.setB, V.setE, V.setO, V.noOwn, V.isOwn, vq, vcall, fzA, fz, fz1, fzL, fzN, rts, rt1, V.er, er1, er2, mixA, mixK, uargs, u1, R.add, vop, vbin, vint2, vstr2, vbool2, vnum, vun, vpick, vpick1, vbool, vconv, vnil, vfieldAddr, vindexAddr, vstEq, vindex, vload, vfield, aggD, vslice, bnd, uopt, vlen, vmin, vextract, Hpk, Hroot, refV, ownR, V.i, V.elems, V.cell, V.cut, V.exact, V.ex0, exL, V.cl, clL, V.sc, scL, scO, scH, V.ct, ct1, ct2, RetP, RetK, RetH, retL, retOne, Back, Veq, subH, obs, obsIf, En.get, En.put, En.ev, enOf, gcond, wantB, constV, exGet, subE, Sub, RV, RVL, NR, RO, subER, subHR, newLt, oldNe, oldOk, oldGe, notIn, ivN, lookN, SubR, Nm.root, Nat.reduceMul, Nat.reduceLeDiff, Nat.reduceEqDiff, Nat.reduceLT, Nat.reduceAdd, Nat.reduceSub, ↓reduceIte, implies_true, reduceCtorEq, ne_eq, ↓shr_eq, IntKind.bits, Int.reduceToNat, Int.reducePow, dite_eq_ite, Value.oneCell', Nat.reduceBEq, Nat.reduceDiv, bnS, bnN, bnT, jsB, GS, GSf, JM_gl, lwB, ndV]
  intro F8 a8 w8 hs8
  refine hQ _ F8 a8 w8 hfresh (hs8.sub ?_)
  simp only [eqC, vlook, vmark, seqN, sameBox, boxJs, vquietR, vopsR, RetC, retW, cellR, undV, vgA, vbinN, vnn, isNilC, isIf, vconvH, vconvO, cvOk, frz1, frzE, jsOk, jsCo, rowsH, vgcH, vgH, vopsT, stepE, Kseq_app, vg_skip, vg_label, vg_seq, vg_region, vg_cond, vg_block, vg_exit, vg_ret, vg_loop, vcallF, vcallH, uls, HdelK, memN, noBox, ninL, keysH, jsAt, AdSub, adopt, noEl, isNil, effL, effO, vopsD, vquiet, vfstD, ldq, ldOk, vops, vfst, vone, vact, ug, addL, vbox, valloc, vstore, vbuild, arrF, vbuildSlice, vappend, vmake, zeroS, zeroE, vstrB, apC, nrm, nr1, nrL, keyL, neqs, diffs, V.app, V.len, vsrc, vdst, mkSl, mkBy, inOrd, placeAll, V.one, V.sto, V.csize, V.parts, V.cellsL, setMany, V.setB, V.setE, V.setO, V.noOwn, V.isOwn, vq, vcall, fzA, fz, fz1, fzL, fzN, rts, rt1, V.er, er1, er2, mixA, mixK, uargs, u1, R.add, vop, vbin, vint2, vstr2, vbool2, vnum, vun, vpick, vpick1, vbool, vconv, vnil, vfieldAddr, vindexAddr, vstEq, vindex, vload, vfield, aggD, vslice, bnd, uopt, vlen, vmin, vextract, Hpk, Hroot, refV, ownR, V.i, V.elems, V.cell, V.cut, V.exact, V.ex0, exL, V.cl, clL, V.sc, scL, scO, scH, V.ct, ct1, ct2, RetP, RetK, RetH, retL, retOne, Back, Veq, subH, obs, obsIf, En.get, En.put, En.ev, enOf, gcond, wantB, constV, exGet, subE, Sub, RV, RVL, NR, RO, subER, subHR, newLt, oldNe, oldOk, oldGe, notIn, ivN, lookN, SubR, Nm.root, Nat.reduceMul, Nat.reduceLeDiff, Nat.reduceEqDiff, Nat.reduceLT, Nat.reduceAdd, Nat.reduceSub, ↓reduceIte, implies_true, reduceCtorEq, ne_eq, ↓shr_eq, IntKind.bits, Int.reduceToNat, Int.reducePow, dite_eq_ite, Value.oneCell', Nat.reduceBEq, Nat.reduceDiv, bnS, bnN, bnT, jsB, lwB, ndV]
  skip
end
/-! ## The pieces that the generator walks -/
theorem zeL : zeroOf Tryd.prog 42 = some [.int .i64 0, .map none] := by kernel_rfl
def topL (ls : List Lw) : Lw := ls.getD (ls.length - 1) default
def decL (ls : List Lw) : List Lw := ls.set (ls.length - 1) ⟨(topL ls).left - 1, (topL ls).blk⟩
abbrev RS (rr : Bool) : S → Prop := RetH [.tmp 2] (.bb rr) [] 8
theorem p0_ok (base : Nat) (M : Names) (v : List Nd) : vg Tryd.prog (GS base M) (.seq (jL sB) (.seq (jL (jR sB)) (jL sL))) ⟨enOf 0 [ndsV v], [], 0⟩ ⟨fun s' => Sub s' (sH v 0 [⟨1, none⟩]), fun _ => False, []⟩ := by
  simp only [sL, sB, jL, jR, Tryd.f9, Option.getD_some]
  simp only [eqC, vlook, vmark, seqN, sameBox, boxJs, vquietR, vopsR, RetC, retW, cellR, undV, vgA, vbinN, vnn, isNilC, isIf, vconvH, vconvO, cvOk, frz1, frzE, jsOk, jsCo, rowsH, vgcH, vgH, vopsT, stepE, Kseq_app, vg_skip, vg_label, vg_seq, vg_region, vg_cond, vg_block, vg_exit, vg_ret, vg_loop, vcallF, vcallH, uls, HdelK, memN, noBox, ninL, keysH, jsAt, AdSub, adopt, noEl, isNil, effL, effO, vopsD, vquiet, vfstD, ldq, ldOk, vops, vfst, vone, vact, ug, addL, vbox, valloc, vstore, vbuild, arrF, vbuildSlice, vappend, vmake, zeroS, zeroE, vstrB, apC, nrm, nr1, nrL, keyL, neqs, diffs, V.app, V.len, vsrc, vdst, mkSl, mkBy, inOrd, placeAll, V.one, V.sto, V.csize, V.parts, V.cellsL, setMany, V.setB, V.setE, V.setO, V.noOwn, V.isOwn, vq, vcall, fzA, fz, fz1, fzL, fzN, rts, rt1, V.er, er1, er2, mixA, mixK, uargs, u1, R.add, vop, vbin, vint2, vstr2, vbool2, vnum, vun, vpick, vpick1, vbool, vconv, vnil, vfieldAddr, vindexAddr, vstEq, vindex, vload, vfield, aggD, vslice, bnd, uopt, vlen, vmin, vextract, Hpk, Hroot, refV, ownR, V.i, V.elems, V.cell, V.cut, V.exact, V.ex0, exL, V.cl, clL, V.sc, scL, scO, scH, V.ct, ct1, ct2, RetP, RetK, RetH, retL, retOne, Back, Veq, subH, obs, obsIf, En.get, En.put, En.ev, enOf, gcond, wantB, constV, exGet, subE, Sub, RV, RVL, NR, RO, subER, subHR, newLt, oldNe, oldOk, oldGe, notIn, ivN, lookN, SubR, Nm.root, Nat.reduceMul, Nat.reduceLeDiff, Nat.reduceEqDiff, Nat.reduceLT, Nat.reduceAdd, Nat.reduceSub, ↓reduceIte, implies_true, reduceCtorEq, ne_eq, ↓shr_eq, IntKind.bits, Int.reduceToNat, Int.reducePow, dite_eq_ite, Value.oneCell', Nat.reduceBEq, Nat.reduceDiv, bnS, bnN, bnT, jsB, GS, GSf, JM_gl, lwB, ndsV, ndD, ldf, jdf, zeL]
  exact ⟨rfl, rfl⟩
theorem p1_ok (base : Nat) (M : Names) (v : List Nd) {i : Nat} (ls : List Lw) : vg Tryd.prog (GS base M) (.seq (jL sI) (jL (jR sI))) (sH v i ls) ⟨fun s' => Sub s' (sH v i ls) ∧ i < v.length, fun _ => False, [(0, fun s' => Sub s' (sH v i ls) ∧ v.length ≤ i)]⟩ := by
  simp only [sI, sL, sB, jL, jR, Tryd.f9, Option.getD_some]
  simp only [eqC, vlook, vmark, seqN, sameBox, boxJs, vquietR, vopsR, RetC, retW, cellR, undV, vgA, vbinN, vnn, isNilC, isIf, vconvH, vconvO, cvOk, frz1, frzE, jsOk, jsCo, rowsH, vgcH, vgH, vopsT, stepE, Kseq_app, vg_skip, vg_label, vg_seq, vg_region, vg_cond, vg_block, vg_exit, vg_ret, vg_loop, vcallF, vcallH, uls, HdelK, memN, noBox, ninL, keysH, jsAt, AdSub, adopt, noEl, isNil, effL, effO, vopsD, vquiet, vfstD, ldq, ldOk, vops, vfst, vone, vact, ug, addL, vbox, valloc, vstore, vbuild, arrF, vbuildSlice, vappend, vmake, zeroS, zeroE, vstrB, apC, nrm, nr1, nrL, keyL, neqs, diffs, V.app, V.len, vsrc, vdst, mkSl, mkBy, inOrd, placeAll, V.one, V.sto, V.csize, V.parts, V.cellsL, setMany, V.setB, V.setE, V.setO, V.noOwn, V.isOwn, vq, vcall, fzA, fz, fz1, fzL, fzN, rts, rt1, V.er, er1, er2, mixA, mixK, uargs, u1, R.add, vop, vbin, vint2, vstr2, vbool2, vnum, vun, vpick, vpick1, vbool, vconv, vnil, vfieldAddr, vindexAddr, vstEq, vindex, vload, vfield, aggD, vslice, bnd, uopt, vlen, vmin, vextract, Hpk, Hroot, refV, ownR, V.i, V.elems, V.cell, V.cut, V.exact, V.ex0, exL, V.cl, clL, V.sc, scL, scO, scH, V.ct, ct1, ct2, RetP, RetK, RetH, retL, retOne, Back, Veq, subH, obs, obsIf, En.get, En.put, En.ev, enOf, gcond, wantB, constV, exGet, subE, Sub, RV, RVL, NR, RO, subER, subHR, newLt, oldNe, oldOk, oldGe, notIn, ivN, lookN, SubR, Nm.root, Nat.reduceMul, Nat.reduceLeDiff, Nat.reduceEqDiff, Nat.reduceLT, Nat.reduceAdd, Nat.reduceSub, ↓reduceIte, implies_true, reduceCtorEq, ne_eq, ↓shr_eq, IntKind.bits, Int.reduceToNat, Int.reducePow, dite_eq_ite, Value.oneCell', Nat.reduceBEq, Nat.reduceDiv, bnS, bnN, bnT, jsB, GS, GSf, JM_gl, lwB, ndsV, ndD, ldf, jdf]
  refine ⟨fun h => ?_, fun h => ?_⟩ <;> simp at h <;> omega
theorem p2_ok (base : Nat) (M : Names) (v : List Nd) {i : Nat} (ls : List Lw) {n : Nd} (hv : Big v) (hi : i < v.length) (hn : n = v.getD i default) (hls : ls.length ≤ 33) (hlf : ∀ l ∈ ls, 0 ≤ l.left ∧ l.left ≤ 9223372036854775807) (rr : Bool) (hbad : ls = [] ∨ plainF n = false → rr = false) :
    vg Tryd.prog (GS base M) (.seq (jL sX) (.seq (jL (jR sX)) (.seq (jL (jR (jR sX))) (jL (jR (jR (jR sX))))))) (sH v i ls) ⟨fun s' => Sub s' (s1 v i n (decL ls)) ∧ ls ≠ [] ∧ plainF n = true, RS rr, []⟩ := by
  simp only [sX, sI, sL, sB, jL, jR, Tryd.f9, Option.getD_some]
  simp only [eqC, vlook, vmark, seqN, sameBox, boxJs, vquietR, vopsR, RetC, retW, cellR, undV, vgA, vbinN, vnn, isNilC, isIf, vconvH, vconvO, cvOk, frz1, frzE, jsOk, jsCo, rowsH, vgcH, vgH, vopsT, stepE, Kseq_app, vg_skip, vg_label, vg_seq, vg_region, vg_cond, vg_block, vg_exit, vg_ret, vg_loop, vcallF, vcallH, uls, HdelK, memN, noBox, ninL, keysH, jsAt, AdSub, adopt, noEl, isNil, effL, effO, vopsD, vquiet, vfstD, ldq, ldOk, vops, vfst, vone, vact, ug, addL, vbox, valloc, vstore, vbuild, arrF, vbuildSlice, vappend, vmake, zeroS, zeroE, vstrB, apC, nrm, nr1, nrL, keyL, neqs, diffs, V.app, V.len, vsrc, vdst, mkSl, mkBy, inOrd, placeAll, V.one, V.sto, V.csize, V.parts, V.cellsL, setMany, V.setB, V.setE, V.setO, V.noOwn, V.isOwn, vq, vcall, fzA, fz, fz1, fzL, fzN, rts, rt1, V.er, er1, er2, mixA, mixK, uargs, u1, R.add, vop, vbin, vint2, vstr2, vbool2, vnum, vun, vpick, vpick1, vbool, vconv, vnil, vfieldAddr, vindexAddr, vstEq, vindex, vload, vfield, aggD, vslice, bnd, uopt, vlen, vmin, vextract, Hpk, Hroot, refV, ownR, V.i, V.elems, V.cell, V.cut, V.exact, V.ex0, exL, V.cl, clL, V.sc, scL, scO, scH, V.ct, ct1, ct2, RetP, RetK, RetH, retL, retOne, Back, Veq, subH, obs, obsIf, En.get, En.put, En.ev, enOf, gcond, wantB, constV, exGet, subE, Sub, RV, RVL, NR, RO, subER, subHR, newLt, oldNe, oldOk, oldGe, notIn, ivN, lookN, SubR, Nm.root, Nat.reduceMul, Nat.reduceLeDiff, Nat.reduceEqDiff, Nat.reduceLT, Nat.reduceAdd, Nat.reduceSub, ↓reduceIte, implies_true, reduceCtorEq, ne_eq, ↓shr_eq, IntKind.bits, Int.reduceToNat, Int.reducePow, dite_eq_ite, Value.oneCell', Nat.reduceBEq, Nat.reduceDiv, bnS, bnN, bnT, jsB, GS, GSf, JM_gl, lwB, ndsV, ndD, ldf, jdf]
  have hb := (hv.at hi).2
  rw [← hn] at hb ⊢
  have hne : ∀ {q : Prop}, ((ls.length : Int) == 0) = false → (0 < ls.length → q) → q := fun h k => k (by
    rcases Nat.eq_zero_or_pos ls.length with h0 | h0
    · rw [h0] at h; exact absurd h (by decide)
    · exact h0)
  refine ⟨by omega, by omega, fun _ => hb, fun hc => ?_, fun hc => ?_⟩
  · refine (hbad ?_).symm
    rw [Bool.or_eq_true] at hc
    rcases hc with hc | hc
    · exact .inl (List.length_eq_zero_iff.1 (by simpa using hc))
    · exact .inr (by simpa using hc)
  · rw [Bool.or_eq_false_iff] at hc
    refine hne hc.1 fun h0 => ?_
    have e : ((ls.length : Int) - 1).toNat = ls.length - 1 := by omega
    have hm : topL ls ∈ ls := by
      unfold topL
      rw [List.getD_eq_getElem?_getD, List.getElem?_eq_getElem (by omega), Option.getD_some]
      exact List.getElem_mem _
    have ht := hlf _ hm
    rw [e]
    show _ ∧ _ ∧ _ ∧ _ ∧ I64 ((topL ls).left - 1) ∧ _
    refine ⟨by constructor <;> omega, by omega, by omega, by omega, by constructor <;> omega, by omega, ⟨?_, rfl, rfl⟩, fun h => ?_, by simpa using hc.2⟩
    · simp [decL]
    · rw [h] at h0; simp at h0
def bdF (n : Nd) (nm : Option (List (List UInt8))) : Bool := (nm.isNone && !n.key.isEmpty) || (nm.getD []).contains n.key || !Lib.validD n.key
theorem badF_bd (n : Nd) (nm : Option (List (List UInt8))) : badF plainF Lib.validD n nm = (!plainF n || bdF n nm) := by
  unfold badF bdF
  cases plainF n <;> simp [Bool.or_assoc]
theorem p3_ok (base : Nat) (M : Names) (v : List Nd) {i : Nat} (ls : List Lw) {n : Nd} (h0 : 0 < ls.length) (hk : n.key.length ≤ 1073741824) (hq : ∀ b, (topL ls).blk = some b → ∃ ks, M b = some ks) :
    vg Tryd.prog (GS base M) (jL sY) (s1 v i n ls) ⟨fun s' => Sub s' ⟨(36, .bb (bdF n ((topL ls).blk.bind M))) :: (s1 v i n ls).e, (s1 v i n ls).h, 2⟩, fun _ => False, []⟩ := by
  unfold topL at *
  generalize hb : (ls.getD (ls.length - 1) default).blk = q at *
  cases q with
  | none =>
    have hlk : lkM M 40 (.map none) n.key = some 0 := by unfold lkM; rw [if_pos ⟨rfl, hk⟩]
    simp only [sY, sX4, sX, sI, sL, sB, jL, jR, Tryd.f9, Option.getD_some]
    simp only [eqC, vlook, vmark, seqN, sameBox, boxJs, vquietR, vopsR, RetC, retW, cellR, undV, vgA, vbinN, vnn, isNilC, isIf, vconvH, vconvO, cvOk, frz1, frzE, jsOk, jsCo, rowsH, vgcH, vgH, vopsT, stepE, Kseq_app, vg_skip, vg_label, vg_seq, vg_region, vg_cond, vg_block, vg_exit, vg_ret, vg_loop, vcallF, vcallH, uls, HdelK, memN, noBox, ninL, keysH, jsAt, AdSub, adopt, noEl, isNil, effL, effO, vopsD, vquiet, vfstD, ldq, ldOk, vops, vfst, vone, vact, ug, addL, vbox, valloc, vstore, vbuild, arrF, vbuildSlice, vappend, vmake, zeroS, zeroE, vstrB, apC, nrm, nr1, nrL, keyL, neqs, diffs, V.app, V.len, vsrc, vdst, mkSl, mkBy, inOrd, placeAll, V.one, V.sto, V.csize, V.parts, V.cellsL, setMany, V.setB, V.setE, V.setO, V.noOwn, V.isOwn, vq, vcall, fzA, fz, fz1, fzL, fzN, rts, rt1, V.er, er1, er2, mixA, mixK, uargs, u1, R.add, vop, vbin, vint2, vstr2, vbool2, vnum, vun, vpick, vpick1, vbool, vconv, vnil, vfieldAddr, vindexAddr, vstEq, vindex, vload, vfield, aggD, vslice, bnd, uopt, vlen, vmin, vextract, Hpk, Hroot, refV, ownR, V.i, V.elems, V.cell, V.cut, V.exact, V.ex0, exL, V.cl, clL, V.sc, scL, scO, scH, V.ct, ct1, ct2, RetP, RetK, RetH, retL, retOne, Back, Veq, subH, obs, obsIf, En.get, En.put, En.ev, enOf, gcond, wantB, constV, exGet, subE, Sub, RV, RVL, NR, RO, subER, subHR, newLt, oldNe, oldOk, oldGe, notIn, ivN, lookN, SubR, Nm.root, Nat.reduceMul, Nat.reduceLeDiff, Nat.reduceEqDiff, Nat.reduceLT, Nat.reduceAdd, Nat.reduceSub, ↓reduceIte, implies_true, reduceCtorEq, ne_eq, ↓shr_eq, IntKind.bits, Int.reduceToNat, Int.reducePow, dite_eq_ite, Value.oneCell', Nat.reduceBEq, Nat.reduceDiv, bnS, bnN, bnT, jsB, GS, GSf, JM_gl, lwB, ndV, ldf, jdf, hb, hlk]
    refine DrawC.rows [(0, some (true, [])), (1, some (true, [])), (2, some (true, [])), (3, some (true, [])), (4, some (true, [])), (5, some (true, [])), (6, some (true, [])), (7, some (true, [])), (8, some (true, [])), (9, some (true, [])), (10, some (true, [])), (11, some (true, [])), (12, some (true, [])), (13, some (true, [])), (14, some (true, [])), (15, some (true, [])), (16, some (true, [])), (17, some (true, [])), (18, some (true, [])), (19, some (true, [])), (20, some (true, [])), (21, some (true, [])), (22, some (true, [])), (23, none), (24, some (true, [])), (25, some (true, [])), (26, some (true, []))] [] [] (by kernel_rfl) ?_
    simp only [eqC, vlook, vmark, seqN, sameBox, boxJs, vquietR, vopsR, RetC, retW, cellR, undV, vgA, vbinN, vnn, isNilC, isIf, vconvH, vconvO, cvOk, frz1, frzE, jsOk, jsCo, rowsH, vgcH, vgH, vopsT, stepE, Kseq_app, vg_skip, vg_label, vg_seq, vg_region, vg_cond, vg_block, vg_exit, vg_ret, vg_loop, vcallF, vcallH, uls, HdelK, memN, noBox, ninL, keysH, jsAt, AdSub, adopt, noEl, isNil, effL, effO, vopsD, vquiet, vfstD, ldq, ldOk, vops, vfst, vone, vact, ug, addL, vbox, valloc, vstore, vbuild, arrF, vbuildSlice, vappend, vmake, zeroS, zeroE, vstrB, apC, nrm, nr1, nrL, keyL, neqs, diffs, V.app, V.len, vsrc, vdst, mkSl, mkBy, inOrd, placeAll, V.one, V.sto, V.csize, V.parts, V.cellsL, setMany, V.setB, V.setE, V.setO, V.noOwn, V.isOwn, vq, vcall, fzA, fz, fz1, fzL, fzN, rts, rt1, V.er, er1, er2, mixA, mixK, uargs, u1, R.add, vop, vbin, vint2, vstr2, vbool2, vnum, vun, vpick, vpick1, vbool, vconv, vnil, vfieldAddr, vindexAddr, vstEq, vindex, vload, vfield, aggD, vslice, bnd, uopt, vlen, vmin, vextract, Hpk, Hroot, refV, ownR, V.i, V.elems, V.cell, V.cut, V.exact, V.ex0, exL, V.cl, clL, V.sc, scL, scO, scH, V.ct, ct1, ct2, RetP, RetK, RetH, retL, retOne, Back, Veq, subH, obs, obsIf, En.get, En.put, En.ev, enOf, gcond, wantB, constV, exGet, subE, Sub, RV, RVL, NR, RO, subER, subHR, newLt, oldNe, oldOk, oldGe, notIn, ivN, lookN, SubR, Nm.root, Nat.reduceMul, Nat.reduceLeDiff, Nat.reduceEqDiff, Nat.reduceLT, Nat.reduceAdd, Nat.reduceSub, ↓reduceIte, implies_true, reduceCtorEq, ne_eq, ↓shr_eq, IntKind.bits, Int.reduceToNat, Int.reducePow, dite_eq_ite, Value.oneCell', Nat.reduceBEq, Nat.reduceDiv, bnS, bnN, bnT, jsB, GS, GSf, JM_gl, lwB, ndV, ldf, jdf, hb, hlk]
    refine ⟨by omega, fun _ => by omega, fun _ => hk, ?_⟩
    unfold bdF
    cases n.key <;> simp
  | some b =>
    obtain ⟨ks, hM⟩ := hq b rfl
    have hlk : lkM M 40 (.map (some b)) n.key = some (if ks.contains n.key then 1 else 0) := by unfold lkM; rw [if_pos ⟨rfl, hk⟩]; simp only [hM]
    simp only [sY, sX4, sX, sI, sL, sB, jL, jR, Tryd.f9, Option.getD_some]
    simp only [eqC, vlook, vmark, seqN, sameBox, boxJs, vquietR, vopsR, RetC, retW, cellR, undV, vgA, vbinN, vnn, isNilC, isIf, vconvH, vconvO, cvOk, frz1, frzE, jsOk, jsCo, rowsH, vgcH, vgH, vopsT, stepE, Kseq_app, vg_skip, vg_label, vg_seq, vg_region, vg_cond, vg_block, vg_exit, vg_ret, vg_loop, vcallF, vcallH, uls, HdelK, memN, noBox, ninL, keysH, jsAt, AdSub, adopt, noEl, isNil, effL, effO, vopsD, vquiet, vfstD, ldq, ldOk, vops, vfst, vone, vact, ug, addL, vbox, valloc, vstore, vbuild, arrF, vbuildSlice, vappend, vmake, zeroS, zeroE, vstrB, apC, nrm, nr1, nrL, keyL, neqs, diffs, V.app, V.len, vsrc, vdst, mkSl, mkBy, inOrd, placeAll, V.one, V.sto, V.csize, V.parts, V.cellsL, setMany, V.setB, V.setE, V.setO, V.noOwn, V.isOwn, vq, vcall, fzA, fz, fz1, fzL, fzN, rts, rt1, V.er, er1, er2, mixA, mixK, uargs, u1, R.add, vop, vbin, vint2, vstr2, vbool2, vnum, vun, vpick, vpick1, vbool, vconv, vnil, vfieldAddr, vindexAddr, vstEq, vindex, vload, vfield, aggD, vslice, bnd, uopt, vlen, vmin, vextract, Hpk, Hroot, refV, ownR, V.i, V.elems, V.cell, V.cut, V.exact, V.ex0, exL, V.cl, clL, V.sc, scL, scO, scH, V.ct, ct1, ct2, RetP, RetK, RetH, retL, retOne, Back, Veq, subH, obs, obsIf, En.get, En.put, En.ev, enOf, gcond, wantB, constV, exGet, subE, Sub, RV, RVL, NR, RO, subER, subHR, newLt, oldNe, oldOk, oldGe, notIn, ivN, lookN, SubR, Nm.root, Nat.reduceMul, Nat.reduceLeDiff, Nat.reduceEqDiff, Nat.reduceLT, Nat.reduceAdd, Nat.reduceSub, ↓reduceIte, implies_true, reduceCtorEq, ne_eq, ↓shr_eq, IntKind.bits, Int.reduceToNat, Int.reducePow, dite_eq_ite, Value.oneCell', Nat.reduceBEq, Nat.reduceDiv, bnS, bnN, bnT, jsB, GS, GSf, JM_gl, lwB, ndV, ldf, jdf, hb, hlk]
    refine DrawC.rows [(0, some (true, [])), (1, some (true, [])), (2, some (true, [])), (3, some (true, [])), (4, some (true, [])), (5, some (true, [])), (6, some (true, [])), (7, some (true, [])), (8, some (true, [])), (9, some (true, [])), (10, some (true, [])), (11, some (true, [])), (12, some (true, [])), (13, some (true, [])), (14, some (true, [])), (15, some (true, [])), (16, some (true, [])), (17, some (true, [])), (18, some (true, [])), (19, some (true, [])), (20, some (true, [])), (21, some (true, [])), (22, some (true, [])), (23, none), (24, some (true, [])), (25, some (true, [])), (26, some (true, []))] [] [] (by kernel_rfl) ?_
    simp only [eqC, vlook, vmark, seqN, sameBox, boxJs, vquietR, vopsR, RetC, retW, cellR, undV, vgA, vbinN, vnn, isNilC, isIf, vconvH, vconvO, cvOk, frz1, frzE, jsOk, jsCo, rowsH, vgcH, vgH, vopsT, stepE, Kseq_app, vg_skip, vg_label, vg_seq, vg_region, vg_cond, vg_block, vg_exit, vg_ret, vg_loop, vcallF, vcallH, uls, HdelK, memN, noBox, ninL, keysH, jsAt, AdSub, adopt, noEl, isNil, effL, effO, vopsD, vquiet, vfstD, ldq, ldOk, vops, vfst, vone, vact, ug, addL, vbox, valloc, vstore, vbuild, arrF, vbuildSlice, vappend, vmake, zeroS, zeroE, vstrB, apC, nrm, nr1, nrL, keyL, neqs, diffs, V.app, V.len, vsrc, vdst, mkSl, mkBy, inOrd, placeAll, V.one, V.sto, V.csize, V.parts, V.cellsL, setMany, V.setB, V.setE, V.setO, V.noOwn, V.isOwn, vq, vcall, fzA, fz, fz1, fzL, fzN, rts, rt1, V.er, er1, er2, mixA, mixK, uargs, u1, R.add, vop, vbin, vint2, vstr2, vbool2, vnum, vun, vpick, vpick1, vbool, vconv, vnil, vfieldAddr, vindexAddr, vstEq, vindex, vload, vfield, aggD, vslice, bnd, uopt, vlen, vmin, vextract, Hpk, Hroot, refV, ownR, V.i, V.elems, V.cell, V.cut, V.exact, V.ex0, exL, V.cl, clL, V.sc, scL, scO, scH, V.ct, ct1, ct2, RetP, RetK, RetH, retL, retOne, Back, Veq, subH, obs, obsIf, En.get, En.put, En.ev, enOf, gcond, wantB, constV, exGet, subE, Sub, RV, RVL, NR, RO, subER, subHR, newLt, oldNe, oldOk, oldGe, notIn, ivN, lookN, SubR, Nm.root, Nat.reduceMul, Nat.reduceLeDiff, Nat.reduceEqDiff, Nat.reduceLT, Nat.reduceAdd, Nat.reduceSub, ↓reduceIte, implies_true, reduceCtorEq, ne_eq, ↓shr_eq, IntKind.bits, Int.reduceToNat, Int.reducePow, dite_eq_ite, Value.oneCell', Nat.reduceBEq, Nat.reduceDiv, bnS, bnN, bnT, jsB, GS, GSf, JM_gl, lwB, ndV, ldf, jdf, hb, hlk]
    refine ⟨by omega, fun _ => by omega, fun _ => hk, ?_⟩
    rw [hM]
    unfold bdF
    have e : (some ks : Option (List (List UInt8))).getD [] = ks := rfl
    rw [e]
    cases ks.contains n.key <;> simp
theorem p4_ok (base : Nat) (M : Names) (v : List Nd) {i : Nat} (ls : List Lw) {n : Nd} (h0 : 0 < ls.length) :
    vg Tryd.prog (GS base M) (jL sE) (s1 v i n ls) ⟨fun s' => Sub s' ⟨(63, .bb (topL ls).blk.isSome) :: (s1 v i n ls).e, (s1 v i n ls).h, 2⟩, fun _ => False, []⟩ := by
  simp only [sE, sY, sX4, sX, sI, sL, sB, jL, jR, jD, Tryd.f9, Option.getD_some]
  simp only [eqC, vlook, vmark, seqN, sameBox, boxJs, vquietR, vopsR, RetC, retW, cellR, undV, vgA, vbinN, vnn, isNilC, isIf, vconvH, vconvO, cvOk, frz1, frzE, jsOk, jsCo, rowsH, vgcH, vgH, vopsT, stepE, Kseq_app, vg_skip, vg_label, vg_seq, vg_region, vg_cond, vg_block, vg_exit, vg_ret, vg_loop, vcallF, vcallH, uls, HdelK, memN, noBox, ninL, keysH, jsAt, AdSub, adopt, noEl, isNil, effL, effO, vopsD, vquiet, vfstD, ldq, ldOk, vops, vfst, vone, vact, ug, addL, vbox, valloc, vstore, vbuild, arrF, vbuildSlice, vappend, vmake, zeroS, zeroE, vstrB, apC, nrm, nr1, nrL, keyL, neqs, diffs, V.app, V.len, vsrc, vdst, mkSl, mkBy, inOrd, placeAll, V.one, V.sto, V.csize, V.parts, V.cellsL, setMany, V.setB, V.setE, V.setO, V.noOwn, V.isOwn, vq, vcall, fzA, fz, fz1, fzL, fzN, rts, rt1, V.er, er1, er2, mixA, mixK, uargs, u1, R.add, vop, vbin, vint2, vstr2, vbool2, vnum, vun, vpick, vpick1, vbool, vconv, vnil, vfieldAddr, vindexAddr, vstEq, vindex, vload, vfield, aggD, vslice, bnd, uopt, vlen, vmin, vextract, Hpk, Hroot, refV, ownR, V.i, V.elems, V.cell, V.cut, V.exact, V.ex0, exL, V.cl, clL, V.sc, scL, scO, scH, V.ct, ct1, ct2, RetP, RetK, RetH, retL, retOne, Back, Veq, subH, obs, obsIf, En.get, En.put, En.ev, enOf, gcond, wantB, constV, exGet, subE, Sub, RV, RVL, NR, RO, subER, subHR, newLt, oldNe, oldOk, oldGe, notIn, ivN, lookN, SubR, Nm.root, Nat.reduceMul, Nat.reduceLeDiff, Nat.reduceEqDiff, Nat.reduceLT, Nat.reduceAdd, Nat.reduceSub, ↓reduceIte, implies_true, reduceCtorEq, ne_eq, ↓shr_eq, IntKind.bits, Int.reduceToNat, Int.reducePow, dite_eq_ite, Value.oneCell', Nat.reduceBEq, Nat.reduceDiv, bnS, bnN, bnT, jsB, GS, GSf, JM_gl, lwB, ndV, ldf, jdf]
  refine ⟨by omega, ?_⟩
  unfold topL
  cases (ls.getD (ls.length - 1) default).blk <;> rfl
theorem p5_ok (base : Nat) (M : Names) : vg Tryd.prog (GS base M) (jC (jR sY)) ⟨[], [], 2⟩ ⟨fun _ => False, RS false, []⟩ := by
  simp only [sY, sX4, sX, sI, sL, sB, jL, jR, jC, Tryd.f9, Option.getD_some]
  simp only [eqC, vlook, vmark, seqN, sameBox, boxJs, vquietR, vopsR, RetC, retW, cellR, undV, vgA, vbinN, vnn, isNilC, isIf, vconvH, vconvO, cvOk, frz1, frzE, jsOk, jsCo, rowsH, vgcH, vgH, vopsT, stepE, Kseq_app, vg_skip, vg_label, vg_seq, vg_region, vg_cond, vg_block, vg_exit, vg_ret, vg_loop, vcallF, vcallH, uls, HdelK, memN, noBox, ninL, keysH, jsAt, AdSub, adopt, noEl, isNil, effL, effO, vopsD, vquiet, vfstD, ldq, ldOk, vops, vfst, vone, vact, ug, addL, vbox, valloc, vstore, vbuild, arrF, vbuildSlice, vappend, vmake, zeroS, zeroE, vstrB, apC, nrm, nr1, nrL, keyL, neqs, diffs, V.app, V.len, vsrc, vdst, mkSl, mkBy, inOrd, placeAll, V.one, V.sto, V.csize, V.parts, V.cellsL, setMany, V.setB, V.setE, V.setO, V.noOwn, V.isOwn, vq, vcall, fzA, fz, fz1, fzL, fzN, rts, rt1, V.er, er1, er2, mixA, mixK, uargs, u1, R.add, vop, vbin, vint2, vstr2, vbool2, vnum, vun, vpick, vpick1, vbool, vconv, vnil, vfieldAddr, vindexAddr, vstEq, vindex, vload, vfield, aggD, vslice, bnd, uopt, vlen, vmin, vextract, Hpk, Hroot, refV, ownR, V.i, V.elems, V.cell, V.cut, V.exact, V.ex0, exL, V.cl, clL, V.sc, scL, scO, scH, V.ct, ct1, ct2, RetP, RetK, RetH, retL, retOne, Back, Veq, subH, obs, obsIf, En.get, En.put, En.ev, enOf, gcond, wantB, constV, exGet, subE, Sub, RV, RVL, NR, RO, subER, subHR, newLt, oldNe, oldOk, oldGe, notIn, ivN, lookN, SubR, Nm.root, Nat.reduceMul, Nat.reduceLeDiff, Nat.reduceEqDiff, Nat.reduceLT, Nat.reduceAdd, Nat.reduceSub, ↓reduceIte, implies_true, reduceCtorEq, ne_eq, ↓shr_eq, IntKind.bits, Int.reduceToNat, Int.reducePow, dite_eq_ite, Value.oneCell', Nat.reduceBEq, Nat.reduceDiv, bnS, bnN, bnT, jsB, GS, GSf, JM_gl]
theorem p6_ok (base : Nat) (M : Names) (v : List Nd) {i : Nat} (ls : List Lw) {n : Nd} :
    vg Tryd.prog (GS base M) (jL sZ) (s1 v i n ls) ⟨fun s' => Sub s' ⟨(82, .bb (isC n)) :: (s1 v i n ls).e, (s1 v i n ls).h, 2⟩, fun _ => False, []⟩ := by
  simp only [sZ, sX4, sX, sI, sL, sB, jL, jR, Tryd.f9, Option.getD_some]
  simp only [eqC, vlook, vmark, seqN, sameBox, boxJs, vquietR, vopsR, RetC, retW, cellR, undV, vgA, vbinN, vnn, isNilC, isIf, vconvH, vconvO, cvOk, frz1, frzE, jsOk, jsCo, rowsH, vgcH, vgH, vopsT, stepE, Kseq_app, vg_skip, vg_label, vg_seq, vg_region, vg_cond, vg_block, vg_exit, vg_ret, vg_loop, vcallF, vcallH, uls, HdelK, memN, noBox, ninL, keysH, jsAt, AdSub, adopt, noEl, isNil, effL, effO, vopsD, vquiet, vfstD, ldq, ldOk, vops, vfst, vone, vact, ug, addL, vbox, valloc, vstore, vbuild, arrF, vbuildSlice, vappend, vmake, zeroS, zeroE, vstrB, apC, nrm, nr1, nrL, keyL, neqs, diffs, V.app, V.len, vsrc, vdst, mkSl, mkBy, inOrd, placeAll, V.one, V.sto, V.csize, V.parts, V.cellsL, setMany, V.setB, V.setE, V.setO, V.noOwn, V.isOwn, vq, vcall, fzA, fz, fz1, fzL, fzN, rts, rt1, V.er, er1, er2, mixA, mixK, uargs, u1, R.add, vop, vbin, vint2, vstr2, vbool2, vnum, vun, vpick, vpick1, vbool, vconv, vnil, vfieldAddr, vindexAddr, vstEq, vindex, vload, vfield, aggD, vslice, bnd, uopt, vlen, vmin, vextract, Hpk, Hroot, refV, ownR, V.i, V.elems, V.cell, V.cut, V.exact, V.ex0, exL, V.cl, clL, V.sc, scL, scO, scH, V.ct, ct1, ct2, RetP, RetK, RetH, retL, retOne, Back, Veq, subH, obs, obsIf, En.get, En.put, En.ev, enOf, gcond, wantB, constV, exGet, subE, Sub, RV, RVL, NR, RO, subER, subHR, newLt, oldNe, oldOk, oldGe, notIn, ivN, lookN, SubR, Nm.root, Nat.reduceMul, Nat.reduceLeDiff, Nat.reduceEqDiff, Nat.reduceLT, Nat.reduceAdd, Nat.reduceSub, ↓reduceIte, implies_true, reduceCtorEq, ne_eq, ↓shr_eq, IntKind.bits, Int.reduceToNat, Int.reducePow, dite_eq_ite, Value.oneCell', Nat.reduceBEq, Nat.reduceDiv, bnS, bnN, bnT, jsB, GS, GSf, JM_gl, lwB, ndV, ldf, jdf, isC]
theorem p7_ok (base : Nat) (M : Names) (v : List Nd) {i : Nat} (ls : List Lw) {n : Nd} (rr : Bool) (hbad : 32 < ls.length → rr = false) :
    vg Tryd.prog (GS base M) (jL sZt) (s1 v i n ls) ⟨fun s' => Sub s' (s1 v i n ls) ∧ ls.length ≤ 32, RS rr, []⟩ := by
  simp only [sZt, sZ, sX4, sX, sI, sL, sB, jL, jR, jC, Tryd.f9, Option.getD_some]
  simp only [eqC, vlook, vmark, seqN, sameBox, boxJs, vquietR, vopsR, RetC, retW, cellR, undV, vgA, vbinN, vnn, isNilC, isIf, vconvH, vconvO, cvOk, frz1, frzE, jsOk, jsCo, rowsH, vgcH, vgH, vopsT, stepE, Kseq_app, vg_skip, vg_label, vg_seq, vg_region, vg_cond, vg_block, vg_exit, vg_ret, vg_loop, vcallF, vcallH, uls, HdelK, memN, noBox, ninL, keysH, jsAt, AdSub, adopt, noEl, isNil, effL, effO, vopsD, vquiet, vfstD, ldq, ldOk, vops, vfst, vone, vact, ug, addL, vbox, valloc, vstore, vbuild, arrF, vbuildSlice, vappend, vmake, zeroS, zeroE, vstrB, apC, nrm, nr1, nrL, keyL, neqs, diffs, V.app, V.len, vsrc, vdst, mkSl, mkBy, inOrd, placeAll, V.one, V.sto, V.csize, V.parts, V.cellsL, setMany, V.setB, V.setE, V.setO, V.noOwn, V.isOwn, vq, vcall, fzA, fz, fz1, fzL, fzN, rts, rt1, V.er, er1, er2, mixA, mixK, uargs, u1, R.add, vop, vbin, vint2, vstr2, vbool2, vnum, vun, vpick, vpick1, vbool, vconv, vnil, vfieldAddr, vindexAddr, vstEq, vindex, vload, vfield, aggD, vslice, bnd, uopt, vlen, vmin, vextract, Hpk, Hroot, refV, ownR, V.i, V.elems, V.cell, V.cut, V.exact, V.ex0, exL, V.cl, clL, V.sc, scL, scO, scH, V.ct, ct1, ct2, RetP, RetK, RetH, retL, retOne, Back, Veq, subH, obs, obsIf, En.get, En.put, En.ev, enOf, gcond, wantB, constV, exGet, subE, Sub, RV, RVL, NR, RO, subER, subHR, newLt, oldNe, oldOk, oldGe, notIn, ivN, lookN, SubR, Nm.root, Nat.reduceMul, Nat.reduceLeDiff, Nat.reduceEqDiff, Nat.reduceLT, Nat.reduceAdd, Nat.reduceSub, ↓reduceIte, implies_true, reduceCtorEq, ne_eq, ↓shr_eq, IntKind.bits, Int.reduceToNat, Int.reducePow, dite_eq_ite, Value.oneCell', Nat.reduceBEq, Nat.reduceDiv, bnS, bnN, bnT, jsB, GS, GSf, JM_gl, lwB, ndV, ldf, jdf]
  refine ⟨fun h => (hbad (by simp at h; omega)).symm, fun h => by simp at h; omega⟩
theorem p8_ok (base : Nat) (M : Names) (v : List Nd) {i : Nat} (ls : List Lw) {n : Nd} :
    vg Tryd.prog (GS base M) (jL (jR sZt)) (s1 v i n ls) ⟨fun s' => Sub s' (s3 v i n ls none), fun _ => False, []⟩ := by
  simp only [sZt, sZ, sX4, sX, sI, sL, sB, jL, jR, jC, Tryd.f9, Option.getD_some]
  simp only [eqC, vlook, vmark, seqN, sameBox, boxJs, vquietR, vopsR, RetC, retW, cellR, undV, vgA, vbinN, vnn, isNilC, isIf, vconvH, vconvO, cvOk, frz1, frzE, jsOk, jsCo, rowsH, vgcH, vgH, vopsT, stepE, Kseq_app, vg_skip, vg_label, vg_seq, vg_region, vg_cond, vg_block, vg_exit, vg_ret, vg_loop, vcallF, vcallH, uls, HdelK, memN, noBox, ninL, keysH, jsAt, AdSub, adopt, noEl, isNil, effL, effO, vopsD, vquiet, vfstD, ldq, ldOk, vops, vfst, vone, vact, ug, addL, vbox, valloc, vstore, vbuild, arrF, vbuildSlice, vappend, vmake, zeroS, zeroE, vstrB, apC, nrm, nr1, nrL, keyL, neqs, diffs, V.app, V.len, vsrc, vdst, mkSl, mkBy, inOrd, placeAll, V.one, V.sto, V.csize, V.parts, V.cellsL, setMany, V.setB, V.setE, V.setO, V.noOwn, V.isOwn, vq, vcall, fzA, fz, fz1, fzL, fzN, rts, rt1, V.er, er1, er2, mixA, mixK, uargs, u1, R.add, vop, vbin, vint2, vstr2, vbool2, vnum, vun, vpick, vpick1, vbool, vconv, vnil, vfieldAddr, vindexAddr, vstEq, vindex, vload, vfield, aggD, vslice, bnd, uopt, vlen, vmin, vextract, Hpk, Hroot, refV, ownR, V.i, V.elems, V.cell, V.cut, V.exact, V.ex0, exL, V.cl, clL, V.sc, scL, scO, scH, V.ct, ct1, ct2, RetP, RetK, RetH, retL, retOne, Back, Veq, subH, obs, obsIf, En.get, En.put, En.ev, enOf, gcond, wantB, constV, exGet, subE, Sub, RV, RVL, NR, RO, subER, subHR, newLt, oldNe, oldOk, oldGe, notIn, ivN, lookN, SubR, Nm.root, Nat.reduceMul, Nat.reduceLeDiff, Nat.reduceEqDiff, Nat.reduceLT, Nat.reduceAdd, Nat.reduceSub, ↓reduceIte, implies_true, reduceCtorEq, ne_eq, ↓shr_eq, IntKind.bits, Int.reduceToNat, Int.reducePow, dite_eq_ite, Value.oneCell', Nat.reduceBEq, Nat.reduceDiv, bnS, bnN, bnT, jsB, GS, GSf, JM_gl, lwB, ndV, ldf, jdf, zeL]
theorem p9_ok (base : Nat) (M : Names) (v : List Nd) {i : Nat} (ls : List Lw) {n : Nd} :
    vg Tryd.prog (GS base M) (jL (jL sZt2)) (s3 v i n ls none) ⟨fun s' => Sub s' ⟨(91, .bb (n.kind == 7)) :: (s3 v i n ls none).e, (s3 v i n ls none).h, 3⟩, fun _ => False, []⟩ := by
  simp only [sZt2, sZt, sZ, sX4, sX, sI, sL, sB, jL, jR, jC, Tryd.f9, Option.getD_some]
  simp only [eqC, vlook, vmark, seqN, sameBox, boxJs, vquietR, vopsR, RetC, retW, cellR, undV, vgA, vbinN, vnn, isNilC, isIf, vconvH, vconvO, cvOk, frz1, frzE, jsOk, jsCo, rowsH, vgcH, vgH, vopsT, stepE, Kseq_app, vg_skip, vg_label, vg_seq, vg_region, vg_cond, vg_block, vg_exit, vg_ret, vg_loop, vcallF, vcallH, uls, HdelK, memN, noBox, ninL, keysH, jsAt, AdSub, adopt, noEl, isNil, effL, effO, vopsD, vquiet, vfstD, ldq, ldOk, vops, vfst, vone, vact, ug, addL, vbox, valloc, vstore, vbuild, arrF, vbuildSlice, vappend, vmake, zeroS, zeroE, vstrB, apC, nrm, nr1, nrL, keyL, neqs, diffs, V.app, V.len, vsrc, vdst, mkSl, mkBy, inOrd, placeAll, V.one, V.sto, V.csize, V.parts, V.cellsL, setMany, V.setB, V.setE, V.setO, V.noOwn, V.isOwn, vq, vcall, fzA, fz, fz1, fzL, fzN, rts, rt1, V.er, er1, er2, mixA, mixK, uargs, u1, R.add, vop, vbin, vint2, vstr2, vbool2, vnum, vun, vpick, vpick1, vbool, vconv, vnil, vfieldAddr, vindexAddr, vstEq, vindex, vload, vfield, aggD, vslice, bnd, uopt, vlen, vmin, vextract, Hpk, Hroot, refV, ownR, V.i, V.elems, V.cell, V.cut, V.exact, V.ex0, exL, V.cl, clL, V.sc, scL, scO, scH, V.ct, ct1, ct2, RetP, RetK, RetH, retL, retOne, Back, Veq, subH, obs, obsIf, En.get, En.put, En.ev, enOf, gcond, wantB, constV, exGet, subE, Sub, RV, RVL, NR, RO, subER, subHR, newLt, oldNe, oldOk, oldGe, notIn, ivN, lookN, SubR, Nm.root, Nat.reduceMul, Nat.reduceLeDiff, Nat.reduceEqDiff, Nat.reduceLT, Nat.reduceAdd, Nat.reduceSub, ↓reduceIte, implies_true, reduceCtorEq, ne_eq, ↓shr_eq, IntKind.bits, Int.reduceToNat, Int.reducePow, dite_eq_ite, Value.oneCell', Nat.reduceBEq, Nat.reduceDiv, bnS, bnN, bnT, jsB, GS, GSf, JM_gl, lwB, ndV, ldf, jdf]
theorem p10_ok (base : Nat) (M : Names) (v : List Nd) {i : Nat} (ls : List Lw) {n : Nd} {q : Option Nat} (h : ls.length ≤ 32) :
    vg Tryd.prog (GS base M) (jR sZt2) (s3 v i n ls q) ⟨fun s' => Sub s' ⟨[(12, .i i), (11, .i v.length), (10, ndsV v), (3, .ro (.r 4))], [(4, .row lvT (.sq 2 lvD (lws (ls ++ [⟨n.kids, q⟩]))))], 5⟩, fun _ => False, []⟩ := by
  simp only [sZt2, sZt, sZ, sX4, sX, sI, sL, sB, jL, jR, jC, Tryd.f9, Option.getD_some]
  simp only [eqC, vlook, vmark, seqN, sameBox, boxJs, vquietR, vopsR, RetC, retW, cellR, undV, vgA, vbinN, vnn, isNilC, isIf, vconvH, vconvO, cvOk, frz1, frzE, jsOk, jsCo, rowsH, vgcH, vgH, vopsT, stepE, Kseq_app, vg_skip, vg_label, vg_seq, vg_region, vg_cond, vg_block, vg_exit, vg_ret, vg_loop, vcallF, vcallH, uls, HdelK, memN, noBox, ninL, keysH, jsAt, AdSub, adopt, noEl, isNil, effL, effO, vopsD, vquiet, vfstD, ldq, ldOk, vops, vfst, vone, vact, ug, addL, vbox, valloc, vstore, vbuild, arrF, vbuildSlice, vappend, vmake, zeroS, zeroE, vstrB, apC, nrm, nr1, nrL, keyL, neqs, diffs, V.app, V.len, vsrc, vdst, mkSl, mkBy, inOrd, placeAll, V.one, V.sto, V.csize, V.parts, V.cellsL, setMany, V.setB, V.setE, V.setO, V.noOwn, V.isOwn, vq, vcall, fzA, fz, fz1, fzL, fzN, rts, rt1, V.er, er1, er2, mixA, mixK, uargs, u1, R.add, vop, vbin, vint2, vstr2, vbool2, vnum, vun, vpick, vpick1, vbool, vconv, vnil, vfieldAddr, vindexAddr, vstEq, vindex, vload, vfield, aggD, vslice, bnd, uopt, vlen, vmin, vextract, Hpk, Hroot, refV, ownR, V.i, V.elems, V.cell, V.cut, V.exact, V.ex0, exL, V.cl, clL, V.sc, scL, scO, scH, V.ct, ct1, ct2, RetP, RetK, RetH, retL, retOne, Back, Veq, subH, obs, obsIf, En.get, En.put, En.ev, enOf, gcond, wantB, constV, exGet, subE, Sub, RV, RVL, NR, RO, subER, subHR, newLt, oldNe, oldOk, oldGe, notIn, ivN, lookN, SubR, Nm.root, Nat.reduceMul, Nat.reduceLeDiff, Nat.reduceEqDiff, Nat.reduceLT, Nat.reduceAdd, Nat.reduceSub, ↓reduceIte, implies_true, reduceCtorEq, ne_eq, ↓shr_eq, IntKind.bits, Int.reduceToNat, Int.reducePow, dite_eq_ite, Value.oneCell', Nat.reduceBEq, Nat.reduceDiv, bnS, bnN, bnT, jsB, GS, GSf, JM_gl, lwB, ndV, ldf, jdf]
  rw [List.length_append]
  simp only [List.length_cons, List.length_nil]
  omega
theorem p11_ok (base : Nat) (M : Names) (v : List Nd) {i : Nat} (ls : List Lw) (h : ls.length ≤ 34) :
    vg Tryd.prog (GS base M) (jL sW) (sH v i ls) ⟨fun s' => Sub s' (sH v i ls) ∧ 0 < ls.length ∧ (topL ls).left = 0, fun _ => False, [(3, fun s' => Sub s' (sH v i ls) ∧ (0 < ls.length → (topL ls).left ≠ 0))]⟩ := by
  simp only [sW, sX4, sX, sI, sL, sB, jL, jR, Tryd.f9, Option.getD_some]
  simp only [eqC, vlook, vmark, seqN, sameBox, boxJs, vquietR, vopsR, RetC, retW, cellR, undV, vgA, vbinN, vnn, isNilC, isIf, vconvH, vconvO, cvOk, frz1, frzE, jsOk, jsCo, rowsH, vgcH, vgH, vopsT, stepE, Kseq_app, vg_skip, vg_label, vg_seq, vg_region, vg_cond, vg_block, vg_exit, vg_ret, vg_loop, vcallF, vcallH, uls, HdelK, memN, noBox, ninL, keysH, jsAt, AdSub, adopt, noEl, isNil, effL, effO, vopsD, vquiet, vfstD, ldq, ldOk, vops, vfst, vone, vact, ug, addL, vbox, valloc, vstore, vbuild, arrF, vbuildSlice, vappend, vmake, zeroS, zeroE, vstrB, apC, nrm, nr1, nrL, keyL, neqs, diffs, V.app, V.len, vsrc, vdst, mkSl, mkBy, inOrd, placeAll, V.one, V.sto, V.csize, V.parts, V.cellsL, setMany, V.setB, V.setE, V.setO, V.noOwn, V.isOwn, vq, vcall, fzA, fz, fz1, fzL, fzN, rts, rt1, V.er, er1, er2, mixA, mixK, uargs, u1, R.add, vop, vbin, vint2, vstr2, vbool2, vnum, vun, vpick, vpick1, vbool, vconv, vnil, vfieldAddr, vindexAddr, vstEq, vindex, vload, vfield, aggD, vslice, bnd, uopt, vlen, vmin, vextract, Hpk, Hroot, refV, ownR, V.i, V.elems, V.cell, V.cut, V.exact, V.ex0, exL, V.cl, clL, V.sc, scL, scO, scH, V.ct, ct1, ct2, RetP, RetK, RetH, retL, retOne, Back, Veq, subH, obs, obsIf, En.get, En.put, En.ev, enOf, gcond, wantB, constV, exGet, subE, Sub, RV, RVL, NR, RO, subER, subHR, newLt, oldNe, oldOk, oldGe, notIn, ivN, lookN, SubR, Nm.root, Nat.reduceMul, Nat.reduceLeDiff, Nat.reduceEqDiff, Nat.reduceLT, Nat.reduceAdd, Nat.reduceSub, ↓reduceIte, implies_true, reduceCtorEq, ne_eq, ↓shr_eq, IntKind.bits, Int.reduceToNat, Int.reducePow, dite_eq_ite, Value.oneCell', Nat.reduceBEq, Nat.reduceDiv, bnS, bnN, bnT, jsB, GS, GSf, JM_gl, lwB, ndV, ldf, jdf]
  have e : ((ls.length : Int) - 1).toNat = ls.length - 1 := by omega
  rw [e]
  refine ⟨fun _ => by constructor <;> omega, fun _ => by omega, fun _ => by omega, fun _ => by omega, fun hc => ?_, fun hc h0 h1 => ?_⟩
  · simp only [Bool.and_eq_true, decide_eq_true_eq, beq_iff_eq] at hc
    exact ⟨by omega, hc.2⟩
  · unfold topL at h1
    rw [h1, decide_eq_true (by omega)] at hc
    cases hc
theorem p12_ok (base : Nat) (M : Names) (v : List Nd) {i : Nat} (ls : List Lw) (h : ls.length ≤ 34) (h0 : 0 < ls.length) :
    vg Tryd.prog (GS base M) (jR (jR sW)) (sH v i ls) ⟨fun s' => Sub s' ⟨[(12, .i i), (11, .i v.length), (10, ndsV v), (3, .vw (.r 0) 2 0 (ls.length - 1))], (sH v i ls).h, 1⟩, fun _ => False, []⟩ := by
  simp only [sW, sX4, sX, sI, sL, sB, jL, jR, Tryd.f9, Option.getD_some]
  simp only [eqC, vlook, vmark, seqN, sameBox, boxJs, vquietR, vopsR, RetC, retW, cellR, undV, vgA, vbinN, vnn, isNilC, isIf, vconvH, vconvO, cvOk, frz1, frzE, jsOk, jsCo, rowsH, vgcH, vgH, vopsT, stepE, Kseq_app, vg_skip, vg_label, vg_seq, vg_region, vg_cond, vg_block, vg_exit, vg_ret, vg_loop, vcallF, vcallH, uls, HdelK, memN, noBox, ninL, keysH, jsAt, AdSub, adopt, noEl, isNil, effL, effO, vopsD, vquiet, vfstD, ldq, ldOk, vops, vfst, vone, vact, ug, addL, vbox, valloc, vstore, vbuild, arrF, vbuildSlice, vappend, vmake, zeroS, zeroE, vstrB, apC, nrm, nr1, nrL, keyL, neqs, diffs, V.app, V.len, vsrc, vdst, mkSl, mkBy, inOrd, placeAll, V.one, V.sto, V.csize, V.parts, V.cellsL, setMany, V.setB, V.setE, V.setO, V.noOwn, V.isOwn, vq, vcall, fzA, fz, fz1, fzL, fzN, rts, rt1, V.er, er1, er2, mixA, mixK, uargs, u1, R.add, vop, vbin, vint2, vstr2, vbool2, vnum, vun, vpick, vpick1, vbool, vconv, vnil, vfieldAddr, vindexAddr, vstEq, vindex, vload, vfield, aggD, vslice, bnd, uopt, vlen, vmin, vextract, Hpk, Hroot, refV, ownR, V.i, V.elems, V.cell, V.cut, V.exact, V.ex0, exL, V.cl, clL, V.sc, scL, scO, scH, V.ct, ct1, ct2, RetP, RetK, RetH, retL, retOne, Back, Veq, subH, obs, obsIf, En.get, En.put, En.ev, enOf, gcond, wantB, constV, exGet, subE, Sub, RV, RVL, NR, RO, subER, subHR, newLt, oldNe, oldOk, oldGe, notIn, ivN, lookN, SubR, Nm.root, Nat.reduceMul, Nat.reduceLeDiff, Nat.reduceEqDiff, Nat.reduceLT, Nat.reduceAdd, Nat.reduceSub, ↓reduceIte, implies_true, reduceCtorEq, ne_eq, ↓shr_eq, IntKind.bits, Int.reduceToNat, Int.reducePow, dite_eq_ite, Value.oneCell', Nat.reduceBEq, Nat.reduceDiv, bnS, bnN, bnT, jsB, GS, GSf, JM_gl, lwB, ndV, ldf, jdf]
  refine ⟨by constructor <;> omega, by omega, by omega, by omega⟩
theorem p13_ok (base : Nat) (M : Names) (v : List Nd) {i : Nat} (ls : List Lw) (h : i < 1048576) :
    vg Tryd.prog (GS base M) (jR (jR (jR sI))) (sH v i ls) ⟨fun s' => Sub s' (sH v (i + 1) ls), fun _ => False, []⟩ := by
  simp only [sI, sL, sB, jL, jR, Tryd.f9, Option.getD_some]
  simp only [eqC, vlook, vmark, seqN, sameBox, boxJs, vquietR, vopsR, RetC, retW, cellR, undV, vgA, vbinN, vnn, isNilC, isIf, vconvH, vconvO, cvOk, frz1, frzE, jsOk, jsCo, rowsH, vgcH, vgH, vopsT, stepE, Kseq_app, vg_skip, vg_label, vg_seq, vg_region, vg_cond, vg_block, vg_exit, vg_ret, vg_loop, vcallF, vcallH, uls, HdelK, memN, noBox, ninL, keysH, jsAt, AdSub, adopt, noEl, isNil, effL, effO, vopsD, vquiet, vfstD, ldq, ldOk, vops, vfst, vone, vact, ug, addL, vbox, valloc, vstore, vbuild, arrF, vbuildSlice, vappend, vmake, zeroS, zeroE, vstrB, apC, nrm, nr1, nrL, keyL, neqs, diffs, V.app, V.len, vsrc, vdst, mkSl, mkBy, inOrd, placeAll, V.one, V.sto, V.csize, V.parts, V.cellsL, setMany, V.setB, V.setE, V.setO, V.noOwn, V.isOwn, vq, vcall, fzA, fz, fz1, fzL, fzN, rts, rt1, V.er, er1, er2, mixA, mixK, uargs, u1, R.add, vop, vbin, vint2, vstr2, vbool2, vnum, vun, vpick, vpick1, vbool, vconv, vnil, vfieldAddr, vindexAddr, vstEq, vindex, vload, vfield, aggD, vslice, bnd, uopt, vlen, vmin, vextract, Hpk, Hroot, refV, ownR, V.i, V.elems, V.cell, V.cut, V.exact, V.ex0, exL, V.cl, clL, V.sc, scL, scO, scH, V.ct, ct1, ct2, RetP, RetK, RetH, retL, retOne, Back, Veq, subH, obs, obsIf, En.get, En.put, En.ev, enOf, gcond, wantB, constV, exGet, subE, Sub, RV, RVL, NR, RO, subER, subHR, newLt, oldNe, oldOk, oldGe, notIn, ivN, lookN, SubR, Nm.root, Nat.reduceMul, Nat.reduceLeDiff, Nat.reduceEqDiff, Nat.reduceLT, Nat.reduceAdd, Nat.reduceSub, ↓reduceIte, implies_true, reduceCtorEq, ne_eq, ↓shr_eq, IntKind.bits, Int.reduceToNat, Int.reducePow, dite_eq_ite, Value.oneCell', Nat.reduceBEq, Nat.reduceDiv, bnS, bnN, bnT, jsB, GS, GSf, JM_gl, lwB, ndV, ldf, jdf]
  refine ⟨by constructor <;> omega, by omega⟩
theorem p14_ok (base : Nat) (M : Names) (v : List Nd) {i : Nat} (ls : List Lw) :
    vg Tryd.prog (GS base M) sT (sH v i ls) ⟨fun _ => False, RS ls.isEmpty, []⟩ := by
  simp only [sT, sB, jL, jR, Tryd.f9, Option.getD_some]
  simp only [eqC, vlook, vmark, seqN, sameBox, boxJs, vquietR, vopsR, RetC, retW, cellR, undV, vgA, vbinN, vnn, isNilC, isIf, vconvH, vconvO, cvOk, frz1, frzE, jsOk, jsCo, rowsH, vgcH, vgH, vopsT, stepE, Kseq_app, vg_skip, vg_label, vg_seq, vg_region, vg_cond, vg_block, vg_exit, vg_ret, vg_loop, vcallF, vcallH, uls, HdelK, memN, noBox, ninL, keysH, jsAt, AdSub, adopt, noEl, isNil, effL, effO, vopsD, vquiet, vfstD, ldq, ldOk, vops, vfst, vone, vact, ug, addL, vbox, valloc, vstore, vbuild, arrF, vbuildSlice, vappend, vmake, zeroS, zeroE, vstrB, apC, nrm, nr1, nrL, keyL, neqs, diffs, V.app, V.len, vsrc, vdst, mkSl, mkBy, inOrd, placeAll, V.one, V.sto, V.csize, V.parts, V.cellsL, setMany, V.setB, V.setE, V.setO, V.noOwn, V.isOwn, vq, vcall, fzA, fz, fz1, fzL, fzN, rts, rt1, V.er, er1, er2, mixA, mixK, uargs, u1, R.add, vop, vbin, vint2, vstr2, vbool2, vnum, vun, vpick, vpick1, vbool, vconv, vnil, vfieldAddr, vindexAddr, vstEq, vindex, vload, vfield, aggD, vslice, bnd, uopt, vlen, vmin, vextract, Hpk, Hroot, refV, ownR, V.i, V.elems, V.cell, V.cut, V.exact, V.ex0, exL, V.cl, clL, V.sc, scL, scO, scH, V.ct, ct1, ct2, RetP, RetK, RetH, retL, retOne, Back, Veq, subH, obs, obsIf, En.get, En.put, En.ev, enOf, gcond, wantB, constV, exGet, subE, Sub, RV, RVL, NR, RO, subER, subHR, newLt, oldNe, oldOk, oldGe, notIn, ivN, lookN, SubR, Nm.root, Nat.reduceMul, Nat.reduceLeDiff, Nat.reduceEqDiff, Nat.reduceLT, Nat.reduceAdd, Nat.reduceSub, ↓reduceIte, implies_true, reduceCtorEq, ne_eq, ↓shr_eq, IntKind.bits, Int.reduceToNat, Int.reducePow, dite_eq_ite, Value.oneCell', Nat.reduceBEq, Nat.reduceDiv, bnS, bnN, bnT, jsB, GS, GSf, JM_gl, lwB, ndV, ldf, jdf]
  cases ls with
  | nil => rfl
  | cons x r =>
    rw [Bool.eq_iff_iff, beq_iff_eq]
    simp
    omega
end Go.Proofs.YtbjfhnbgiajnjaaDoor
