/- Whole numbers of any size (bignum): the walks of the numbers with a sign. The parts of an RSA key. -/
import Derived.Test.YtmpklnhmempmgaaGreatDoorQ26
import Derived.Test.YtmpklnhmempmgaaGreatDoorQ28
import Derived.Test.YtmpklnhmempmgaaGreatDoorQ21
namespace Go.Proofs.YtmpklnhmempmgaaGreatDoor
open Go.RowKit
set_option linter.unusedSimpArgs false
set_option maxRecDepth 100000
/-- A number that is only read, behind a pointer. -/
def pN (n : Nat) : V := .pe (.sq 2 .any [.st [.bb false, wV (dg n)]]) 0 0
def bI (b : Bool) (n : Nat) : V := .st [.bb b, wV (dg n)]
theorem give_fn (J : Inv) (k nx : Nat) (b : Bool) (a : List Nat) (b0 v0 : V) : FnH Tryz.prog J 65 [.op k 0, .bb b, wV a] [(k, .box 59 (.st [b0, v0]))] nx (.op k 0) [(k, .box 59 (.st [.bb (b && decide (0 < a.length)), wV a]))] nx := by
  refine fnH_intro Tryz.func65 rfl (by kernel_rfl) (Nat.le_of_ble_eq_true (by kernel_rfl)) (by kernel_rfl) (by kernel_rfl) (SGbb_ok J nx) rfl ?_
  unfold Tryz.f65
  simp only [↓Br_t, ↓Br_f, ↓Brg_t, ↓Brg_f, bnC, Kseq_app, Nat.reduceMul, Nat.reduceLeDiff, Nat.reduceEqDiff, Nat.reduceLT, Nat.reduceAdd, Nat.reduceSub, ↓reduceIte, implies_true, reduceCtorEq, ne_eq, ↓shr_eq, IntKind.bits, Int.reduceToNat, Int.reducePow, dite_eq_ite, Value.oneCell', Nat.reduceBEq, Nat.reduceDiv, bnS, bnN, bnT, spB, vl_dg, W32_dg, unW_wds, wV, sdf, wds_nil, SGbb, SGbf]
  refine .inl ?_
  simp only [↓Br_t, ↓Br_f, ↓Brg_t, ↓Brg_f, bnC, Kseq_app, Nat.reduceMul, Nat.reduceLeDiff, Nat.reduceEqDiff, Nat.reduceLT, Nat.reduceAdd, Nat.reduceSub, ↓reduceIte, implies_true, reduceCtorEq, ne_eq, ↓shr_eq, IntKind.bits, Int.reduceToNat, Int.reducePow, dite_eq_ite, Value.oneCell', Nat.reduceBEq, Nat.reduceDiv, bnS, bnN, bnT, spB, vl_dg, W32_dg, unW_wds, wV, sdf, wds_nil]
  have e : decide (0 < (a.length : Int)) = decide (0 < a.length) := by by_cases h : 0 < a.length <;> simp [h]
  rw [e]
  cases b <;> exact ⟨rfl, Nat.le_refl _⟩
def sumB (xn : Bool) (a : Nat) (yn : Bool) (b : Nat) : Bool := if xn = yn then xn else if b ≤ a then xn else yn
def sumN (xn : Bool) (a : Nat) (yn : Bool) (b : Nat) : Nat := if xn = yn then a + b else if b ≤ a then a - b else b - a
def SBmf : FuncId → List V → Option (List Prop × Bool × V) := fun f args =>
  if f = 62 then match args with
    | [.sq 1 da La, .sq 1 db Lb] => some ([da = .val (.int .u32 0), La = wds (unW La), db = .val (.int .u32 0), Lb = wds (unW Lb), (unW La).length ≤ 67108864, (unW Lb).length ≤ 67108864, W32 (unW La), W32 (unW Lb)], false, wV (dg (vl (unW La) + vl (unW Lb))))
    | _ => none
  else if f = 116 then match args with
    | [.sq 1 da La, .sq 1 db Lb] => some ([da = .val (.int .u32 0), La = wds (unW La), db = .val (.int .u32 0), Lb = wds (unW Lb), (unW La).length ≤ 67108864, (unW Lb).length ≤ (unW La).length, W32 (unW La), W32 (unW Lb), vl (unW Lb) ≤ vl (unW La)], false, wV (dg (vl (unW La) - vl (unW Lb))))
    | _ => none
  else if f = 113 then match args with
    | [.sq 1 da La, .sq 1 db Lb] => some ([da = .val (.int .u32 0), La = wds (unW La), db = .val (.int .u32 0), Lb = wds (unW Lb), (unW La).length ≤ 67108864, (unW Lb).length ≤ 67108864, W32 (unW La), W32 (unW Lb)], false, wV (dg (vl (unW La) * vl (unW Lb))))
    | _ => none
  else if f = 97 then match args with
    | [.sq 1 da La, .sq 1 db Lb] => some ([da = .val (.int .u32 0), La = wds (unW La), db = .val (.int .u32 0), Lb = wds (unW Lb), Pr (unW La), Pr (unW Lb)], false, .i (cmp3 (vl (unW La)) (vl (unW Lb))))
    | _ => none
  else if f = 64 then match args with
    | [.val (.int .u64 n)] => some ([0 ≤ n, n < 18446744073709551616], false, wV (dg n.toNat))
    | _ => none
  else none
def SBm (J : Inv) : Sig := ⟨J, sdf, SBmf, noH, 0⟩
theorem SBm_ok (J : Inv) : SigOk Tryz.prog (SBm J) := by
  refine .plain fun f args l fr r h hl => ?_
  change SBmf f args = some (l, fr, r) at h
  unfold SBmf at h
  split at h
  · rename_i hf; subst hf
    split at h
    · rename_i da La db Lb
      obtain ⟨rfl, rfl, rfl⟩ := jsome_tri h
      obtain ⟨qda, qla, qdb, qlb, c0, c1, c2, c3, -⟩ := hl.un
      subst qda qdb
      have hp := badd_fn J (unW La) (unW Lb) c0 c1 c2 c3
      unfold wV at hp
      rw [← qla, ← qlb] at hp
      exact hp
    · exact absurd h (by simp)
  · split at h
    · rename_i hf; subst hf
      split at h
      · rename_i da La db Lb
        obtain ⟨rfl, rfl, rfl⟩ := jsome_tri h
        obtain ⟨qda, qla, qdb, qlb, c0, c1, c2, c3, c4, -⟩ := hl.un
        subst qda qdb
        have hp := bsub_fn J (unW La) (unW Lb) c0 c1 c2 c3 c4
        unfold wV at hp
        rw [← qla, ← qlb] at hp
        exact hp
      · exact absurd h (by simp)
    · split at h
      · rename_i hf; subst hf
        split at h
        · rename_i da La db Lb
          obtain ⟨rfl, rfl, rfl⟩ := jsome_tri h
          obtain ⟨qda, qla, qdb, qlb, c0, c1, c2, c3, -⟩ := hl.un
          subst qda qdb
          have hp := bmul_fn J (unW La) (unW Lb) c0 c1 c2 c3
          unfold wV at hp
          rw [← qla, ← qlb] at hp
          exact hp
        · exact absurd h (by simp)
      · split at h
        · rename_i hf; subst hf
          split at h
          · rename_i da La db Lb
            obtain ⟨rfl, rfl, rfl⟩ := jsome_tri h
            obtain ⟨qda, qla, qdb, qlb, c0, c1, -⟩ := hl.un
            subst qda qdb
            have hp := bcmp_fn J (unW La) (unW Lb) c0 c1
            unfold wV at hp
            rw [← qla, ← qlb] at hp
            exact hp
          · exact absurd h (by simp)
        · split at h
          · rename_i hf; subst hf
            split at h
            · rename_i n
              obtain ⟨rfl, rfl, rfl⟩ := jsome_tri h
              obtain ⟨c0, c1, -⟩ := hl.un
              have hp := (by have h := words_fn J n.toNat (by omega); rwa [Int.toNat_of_nonneg c0] at h)
              exact hp
            · exact absurd h (by simp)
          · exact absurd h (by simp)
theorem div_pr (J : Inv) (a b : List Nat) (ha : Pr a) (hb : Pr b) (h3 : 3 ≤ b.length) (h4 : a.length ≤ 1000000) (h5 : b.length ≤ 1000000) : Fn Tryz.prog J 136 false [wV a, wV b] (.tu [wV (dg (vl a / vl b)), wV (dg (vl a % vl b))]) := by
  have h := div_fn J (vl a) (vl b) (b.length - 2) (by rw [← hb.eq]; omega) (by omega) (by omega) (by rw [← ha.eq]; exact h4)
  rwa [← ha.eq, ← hb.eq] at h
def SBnf : FuncId → List V → Option (List Prop × Bool × V) := fun f args =>
  if f = 135 then match args with
    | [.sq 1 da La] => some ([da = .val (.int .u32 0), La = wds (unW La), Pr (unW La)], false, wV (dg (vl (unW La))))
    | _ => none
  else if f = 63 then match args with
    | [.sq 1 da La, .val (.int .u64 n)] => some ([da = .val (.int .u32 0), La = wds (unW La), 0 ≤ n, n < 32, (unW La).length ≤ 67108864, W32 (unW La)], false, wV (dg (vl (unW La) * 2 ^ n.toNat)))
    | _ => none
  else if f = 136 then match args with
    | [.sq 1 da La, .sq 1 db Lb] => some ([da = .val (.int .u32 0), La = wds (unW La), db = .val (.int .u32 0), Lb = wds (unW Lb), Pr (unW La), Pr (unW Lb), 3 ≤ (unW Lb).length, (unW La).length ≤ 1000000, (unW Lb).length ≤ 1000000], false, .tu [wV (dg (vl (unW La) / vl (unW Lb))), wV (dg (vl (unW La) % vl (unW Lb)))])
    | _ => none
  else SBmf f args
def SBn (J : Inv) : Sig := ⟨J, sdf, SBnf, noH, 0⟩
theorem SBn_ok (J : Inv) : SigOk Tryz.prog (SBn J) := by
  refine .plain fun f args l fr r h hl => ?_
  change SBnf f args = some (l, fr, r) at h
  unfold SBnf at h
  split at h
  · rename_i hf; subst hf
    split at h
    · rename_i da La
      obtain ⟨rfl, rfl, rfl⟩ := jsome_tri h
      obtain ⟨qda, qla, c0, -⟩ := hl.un
      subst qda
      have hp := Fn.res_eq (r' := wV (dg (vl (unW La)))) (twin_fn J (unW La) (by have := c0.len; omega)) (by rw [← c0.eq])
      unfold wV at hp
      rw [← qla] at hp
      exact hp
    · exact absurd h (by simp)
  · split at h
    · rename_i hf; subst hf
      split at h
      · rename_i da La n
        obtain ⟨rfl, rfl, rfl⟩ := jsome_tri h
        obtain ⟨qda, qla, c0, c1, c2, c3, -⟩ := hl.un
        subst qda
        have hp := (by have h := left_fn J (unW La) n.toNat (by omega) c2 c3; rwa [Int.toNat_of_nonneg c0] at h)
        unfold wV at hp
        rw [← qla] at hp
        exact hp
      · exact absurd h (by simp)
    · split at h
      · rename_i hf; subst hf
        split at h
        · rename_i da La db Lb
          obtain ⟨rfl, rfl, rfl⟩ := jsome_tri h
          obtain ⟨qda, qla, qdb, qlb, c0, c1, c2, c3, c4, -⟩ := hl.un
          subst qda qdb
          have hp := div_pr J (unW La) (unW Lb) c0 c1 c2 c3 c4
          unfold wV at hp
          rw [← qla, ← qlb] at hp
          exact hp
        · exact absurd h (by simp)
      · exact (SBm_ok J ).1 f args l fr r h hl
theorem sum_fn (J : Inv) (xn yn : Bool) (a b : List Nat) (ha : Pr a) (hb : Pr b) : Fn Tryz.prog J 96 false [.bb xn, wV a, .bb yn, wV b] (.tu [.bb (sumB xn (vl a) yn (vl b)), wV (dg (sumN xn (vl a) yn (vl b)))]) := by
  refine fn_intro Tryz.func96 rfl (by kernel_rfl) (Nat.le_of_ble_eq_true (by kernel_rfl)) (by kernel_rfl) (by kernel_rfl) (by simp [V.cl, clL, wV, wds_cl]) (SBn_ok J) ?_
  unfold Tryz.f96
  simp only [↓Br_t, ↓Br_f, ↓Brg_t, ↓Brg_f, bnC, Kseq_app, Nat.reduceMul, Nat.reduceLeDiff, Nat.reduceEqDiff, Nat.reduceLT, Nat.reduceAdd, Nat.reduceSub, ↓reduceIte, implies_true, reduceCtorEq, ne_eq, ↓shr_eq, IntKind.bits, Int.reduceToNat, Int.reducePow, dite_eq_ite, Value.oneCell', Nat.reduceBEq, Nat.reduceDiv, bnS, bnN, bnT, spB, vl_dg, W32_dg, unW_wds, wV, sdf, wds_nil, SBn, SBnf, SBmf]
  have la := ha.len
  have lb := hb.len
  have wa := ha.w
  have wb := hb.w
  refine ⟨fun h => ?_, fun h => ⟨ha, hb, fun h2 => ?_, fun h2 => ?_⟩⟩
  · have h : xn = yn := by simpa using h
    unfold sumB sumN
    rw [if_pos h, if_pos h]
    exact ⟨by omega, by omega, wa, wb, rfl, rfl⟩
  · have h : ¬ xn = yn := by simpa using h
    rw [cmp3_ge, decide_eq_true_eq] at h2
    have hl := dg_mono h2
    rw [← ha.eq, ← hb.eq] at hl
    unfold sumB sumN
    rw [if_neg h, if_neg h, if_pos h2, if_pos h2]
    exact ⟨by omega, hl, wa, wb, h2, rfl, rfl⟩
  · have h : ¬ xn = yn := by simpa using h
    rw [cmp3_ge, decide_eq_false_iff_not] at h2
    have hl := dg_mono (Nat.le_of_not_le h2)
    rw [← ha.eq, ← hb.eq] at hl
    unfold sumB sumN
    rw [if_neg h, if_neg h, if_neg h2, if_neg h2]
    exact ⟨by omega, hl, wb, wa, Nat.le_of_not_le h2, rfl, rfl⟩
def SBgh : FuncId → List V → List (Nat × Ob) → Nat → Option CallH := fun f args h nx =>
  if f = 65 then match args with
    | [.op k 0, .bb b, .sq 1 d L] => match Hroot h k with
      | some (.box ty (.st [b0, v0])) => some ⟨[ty = 59, d = .val (.int .u32 0), L = wds (unW L)], [], [(k, .box 59 (.st [b0, v0]))], .op k 0, [(k, .box 59 (.st [.bb (b && decide (0 < (unW L).length)), wV (unW L)]))], nx⟩
      | _ => none
    | _ => none
  else none
theorem SBgh_ok (J : Inv) (f : FuncId) (args : List V) (h : List (Nat × Ob)) (nx : Nat) (c : CallH) (hc : SBgh f args h nx = some c) (hl : AllP c.l) : FnH Tryz.prog J f (mixA h c.bw args).1 c.pre nx c.res c.post c.nx := by
  unfold SBgh at hc
  split at hc
  · rename_i hf; subst hf
    split at hc
    · rename_i k b d L
      split at hc
      · rename_i ty b0 v0 hk
        obtain rfl := Option.some.inj hc
        have q1 : ty = 59 := hl _ (by simp)
        have q2 : d = .val (.int .u32 0) := hl _ (by simp)
        have q3 : L = wds (unW L) := hl _ (by simp)
        subst q1 q2
        have hp := give_fn J k nx b (unW L) b0 v0
        rw [show wV (unW L) = .sq 1 (.val (.int .u32 0)) L by unfold wV; rw [← q3]] at hp ⊢
        exact hp
      · exact absurd hc (by simp)
    · exact absurd hc (by simp)
  · exact absurd hc (by simp)
def SBsf : FuncId → List V → Option (List Prop × Bool × V) := fun f args =>
  if f = 96 then match args with
    | [.bb xn, .sq 1 da La, .bb yn, .sq 1 db Lb] => some ([da = .val (.int .u32 0), La = wds (unW La), db = .val (.int .u32 0), Lb = wds (unW Lb), Pr (unW La), Pr (unW Lb)], false, .tu [.bb (sumB xn (vl (unW La)) yn (vl (unW Lb))), wV (dg (sumN xn (vl (unW La)) yn (vl (unW Lb))))])
    | _ => none
  else SBnf f args
def SBs (J : Inv) : Sig := ⟨J, sdf, SBsf, noH, 0⟩
theorem SBs_ok (J : Inv) : SigOk Tryz.prog (SBs J) := by
  refine .plain fun f args l fr r h hl => ?_
  change SBsf f args = some (l, fr, r) at h
  unfold SBsf at h
  split at h
  · rename_i hf; subst hf
    split at h
    · rename_i xn da La yn db Lb
      obtain ⟨rfl, rfl, rfl⟩ := jsome_tri h
      obtain ⟨qda, qla, qdb, qlb, c0, c1, -⟩ := hl.un
      subst qda qdb
      have hp := sum_fn J xn yn (unW La) (unW Lb) c0 c1
      unfold wV at hp
      rw [← qla, ← qlb] at hp
      exact hp
    · exact absurd h (by simp)
  · exact (SBn_ok J ).1 f args l fr r h hl
def SBi (J : Inv) (b : Nat) : Sig := ⟨J, sdf, SBsf, SBgh, b⟩
theorem SBi_ok (J : Inv) (b : Nat) : SigOk Tryz.prog (SBi J b) := ⟨(SBs_ok J).1, SBgh_ok J⟩
section
variable (J : Inv) (k nx : Nat) (b0 v0 : V)
theorem bMul_fn (x y : Nat) (hx : (dg x).length ≤ 100000) (hy : (dg y).length ≤ 100000) : FnH Tryz.prog J 92 [.op k 0, pN x, pN y] [(k, .box 59 (.st [b0, v0]))] nx (.op k 0) [(k, .box 59 (bI false (x * y)))] nx := by
  refine fnH_intro Tryz.func92 rfl (by kernel_rfl) (Nat.le_of_ble_eq_true (by kernel_rfl)) (by kernel_rfl) (by kernel_rfl) (SBi_ok J nx) rfl ?_
  unfold Tryz.f92
  simp only [↓Br_t, ↓Br_f, ↓Brg_t, ↓Brg_f, bnC, Kseq_app, Nat.reduceMul, Nat.reduceLeDiff, Nat.reduceEqDiff, Nat.reduceLT, Nat.reduceAdd, Nat.reduceSub, ↓reduceIte, implies_true, reduceCtorEq, ne_eq, ↓shr_eq, IntKind.bits, Int.reduceToNat, Int.reducePow, dite_eq_ite, Value.oneCell', Nat.reduceBEq, Nat.reduceDiv, bnS, bnN, bnT, spB, vl_dg, W32_dg, unW_wds, wV, sdf, wds_nil, SBi, SBsf, SBnf, SBmf, SBgh, pN, bI]
  refine DrawC.sch [(0, some []), (1, some []), (2, some []), (3, some []), (4, some []), (5, some []), (6, some []), (7, some []), (8, some []), (9, some []), (10, some []), (11, some []), (12, some []), (13, some []), (14, some []), (15, some []), (16, some []), (17, some []), (18, none), (19, none), (20, some [0, 1])] [(19, [0, 1])] (by kernel_rfl) ?_
  simp only [↓Br_t, ↓Br_f, ↓Brg_t, ↓Brg_f, bnC, Kseq_app, Nat.reduceMul, Nat.reduceLeDiff, Nat.reduceEqDiff, Nat.reduceLT, Nat.reduceAdd, Nat.reduceSub, ↓reduceIte, implies_true, reduceCtorEq, ne_eq, ↓shr_eq, IntKind.bits, Int.reduceToNat, Int.reducePow, dite_eq_ite, Value.oneCell', Nat.reduceBEq, Nat.reduceDiv, bnS, bnN, bnT, spB, vl_dg, W32_dg, unW_wds, wV, sdf, wds_nil, SBi, SBsf, SBnf, SBmf, SBgh, pN, bI]
  refine ⟨by omega, by omega, .inr trivial, .inl ?_⟩
  simp only [↓Br_t, ↓Br_f, ↓Brg_t, ↓Brg_f, bnC, Kseq_app, Nat.reduceMul, Nat.reduceLeDiff, Nat.reduceEqDiff, Nat.reduceLT, Nat.reduceAdd, Nat.reduceSub, ↓reduceIte, implies_true, reduceCtorEq, ne_eq, ↓shr_eq, IntKind.bits, Int.reduceToNat, Int.reducePow, dite_eq_ite, Value.oneCell', Nat.reduceBEq, Nat.reduceDiv, bnS, bnN, bnT, spB, vl_dg, W32_dg, unW_wds, wV, sdf, wds_nil]
  exact Nat.le_refl _
theorem bSet_fn (x : Nat) (hx : (dg x).length ≤ 100000) : FnH Tryz.prog J 128 [.op k 0, pN x] [(k, .box 59 (.st [b0, v0]))] nx (.op k 0) [(k, .box 59 (bI false x))] nx := by
  refine fnH_intro Tryz.func128 rfl (by kernel_rfl) (Nat.le_of_ble_eq_true (by kernel_rfl)) (by kernel_rfl) (by kernel_rfl) (SBi_ok J nx) rfl ?_
  unfold Tryz.f128
  simp only [↓Br_t, ↓Br_f, ↓Brg_t, ↓Brg_f, bnC, Kseq_app, Nat.reduceMul, Nat.reduceLeDiff, Nat.reduceEqDiff, Nat.reduceLT, Nat.reduceAdd, Nat.reduceSub, ↓reduceIte, implies_true, reduceCtorEq, ne_eq, ↓shr_eq, IntKind.bits, Int.reduceToNat, Int.reducePow, dite_eq_ite, Value.oneCell', Nat.reduceBEq, Nat.reduceDiv, bnS, bnN, bnT, spB, vl_dg, W32_dg, unW_wds, wV, sdf, wds_nil, SBi, SBsf, SBnf, SBmf, SBgh, pN, bI]
  refine DrawC.sch [(0, some []), (1, some []), (2, some []), (3, some []), (4, some []), (5, some []), (6, some []), (7, some []), (8, some []), (9, none), (10, none), (11, some [0, 1])] [(10, [0, 1])] (by kernel_rfl) ?_
  simp only [↓Br_t, ↓Br_f, ↓Brg_t, ↓Brg_f, bnC, Kseq_app, Nat.reduceMul, Nat.reduceLeDiff, Nat.reduceEqDiff, Nat.reduceLT, Nat.reduceAdd, Nat.reduceSub, ↓reduceIte, implies_true, reduceCtorEq, ne_eq, ↓shr_eq, IntKind.bits, Int.reduceToNat, Int.reducePow, dite_eq_ite, Value.oneCell', Nat.reduceBEq, Nat.reduceDiv, bnS, bnN, bnT, spB, vl_dg, W32_dg, unW_wds, wV, sdf, wds_nil, SBi, SBsf, SBnf, SBmf, SBgh, pN, bI]
  refine ⟨.of (by omega), .inr trivial, .inl ?_⟩
  simp only [↓Br_t, ↓Br_f, ↓Brg_t, ↓Brg_f, bnC, Kseq_app, Nat.reduceMul, Nat.reduceLeDiff, Nat.reduceEqDiff, Nat.reduceLT, Nat.reduceAdd, Nat.reduceSub, ↓reduceIte, implies_true, reduceCtorEq, ne_eq, ↓shr_eq, IntKind.bits, Int.reduceToNat, Int.reducePow, dite_eq_ite, Value.oneCell', Nat.reduceBEq, Nat.reduceDiv, bnS, bnN, bnT, spB, vl_dg, W32_dg, unW_wds, wV, sdf, wds_nil]
  exact Nat.le_refl _
end
theorem sub_sign (x y : Nat) : (sumB false x true y && decide (0 < (dg (sumN false x true y)).length)) = decide (x < y) ∧ sumN false x true y = if y ≤ x then x - y else y - x := by
  unfold sumB sumN
  simp only [Bool.false_eq_true, if_false]
  by_cases h : y ≤ x
  · simp only [if_pos h, Bool.false_and]
    exact ⟨(decide_eq_false (by omega)).symm, trivial⟩
  · simp only [if_neg h, Bool.true_and]
    refine ⟨?_, trivial⟩
    rw [decide_eq_true (show x < y by omega)]
    exact decide_eq_true (Nat.pos_of_ne_zero fun e => by have := dg_eq_nil.1 (List.length_eq_zero_iff.1 e); omega)
theorem bSub_fn (J : Inv) (k nx : Nat) (b0 v0 : V) (x y : Nat) (hx : (dg x).length ≤ 100000) (hy : (dg y).length ≤ 100000) : FnH Tryz.prog J 93 [.op k 0, pN x, pN y] [(k, .box 59 (.st [b0, v0]))] nx (.op k 0) [(k, .box 59 (bI (decide (x < y)) (if y ≤ x then x - y else y - x)))] nx := by
  refine fnH_intro Tryz.func93 rfl (by kernel_rfl) (Nat.le_of_ble_eq_true (by kernel_rfl)) (by kernel_rfl) (by kernel_rfl) (SBi_ok J nx) rfl ?_
  unfold Tryz.f93
  simp only [↓Br_t, ↓Br_f, ↓Brg_t, ↓Brg_f, bnC, Kseq_app, Nat.reduceMul, Nat.reduceLeDiff, Nat.reduceEqDiff, Nat.reduceLT, Nat.reduceAdd, Nat.reduceSub, ↓reduceIte, implies_true, reduceCtorEq, ne_eq, ↓shr_eq, IntKind.bits, Int.reduceToNat, Int.reducePow, dite_eq_ite, Value.oneCell', Nat.reduceBEq, Nat.reduceDiv, bnS, bnN, bnT, spB, vl_dg, W32_dg, unW_wds, wV, sdf, wds_nil, SBi, SBsf, SBnf, SBmf, SBgh, pN, bI]
  refine DrawC.sch [(0, some []), (1, some []), (2, some []), (3, some []), (4, some []), (5, some []), (6, some []), (7, some []), (8, some []), (9, some []), (10, some []), (11, some []), (12, some []), (13, some []), (14, some []), (15, some []), (16, some []), (17, some []), (18, none), (19, some []), (20, some []), (21, none), (22, some [0, 1])] [(21, [0, 1])] (by kernel_rfl) ?_
  simp only [↓Br_t, ↓Br_f, ↓Brg_t, ↓Brg_f, bnC, Kseq_app, Nat.reduceMul, Nat.reduceLeDiff, Nat.reduceEqDiff, Nat.reduceLT, Nat.reduceAdd, Nat.reduceSub, ↓reduceIte, implies_true, reduceCtorEq, ne_eq, ↓shr_eq, IntKind.bits, Int.reduceToNat, Int.reducePow, dite_eq_ite, Value.oneCell', Nat.reduceBEq, Nat.reduceDiv, bnS, bnN, bnT, spB, vl_dg, W32_dg, unW_wds, wV, sdf, wds_nil, SBi, SBsf, SBnf, SBmf, SBgh, pN, bI]
  refine ⟨.of (by omega), .of (by omega), .inr trivial, .inl ?_⟩
  obtain ⟨e1, e2⟩ := sub_sign x y
  rw [e1, e2]
  simp only [↓Br_t, ↓Br_f, ↓Brg_t, ↓Brg_f, bnC, Kseq_app, Nat.reduceMul, Nat.reduceLeDiff, Nat.reduceEqDiff, Nat.reduceLT, Nat.reduceAdd, Nat.reduceSub, ↓reduceIte, implies_true, reduceCtorEq, ne_eq, ↓shr_eq, IntKind.bits, Int.reduceToNat, Int.reducePow, dite_eq_ite, Value.oneCell', Nat.reduceBEq, Nat.reduceDiv, bnS, bnN, bnT, spB, vl_dg, W32_dg, unW_wds, wV, sdf, wds_nil]
  exact Nat.le_refl _
theorem bSubO_fn (J : Inv) (k nx : Nat) (bx : Bool) (x y : Nat) (hx : (dg x).length ≤ 100000) (hy : (dg y).length ≤ 100000) : FnH Tryz.prog J 93 [.op k 0, .op k 0, pN y] [(k, .box 59 (bI bx x))] nx (.op k 0) [(k, .box 59 (bI (sumB bx x true y && decide (0 < (dg (sumN bx x true y)).length)) (sumN bx x true y)))] nx := by
  refine fnH_intro Tryz.func93 rfl (by kernel_rfl) (Nat.le_of_ble_eq_true (by kernel_rfl)) (by kernel_rfl) (by kernel_rfl) (SBi_ok J nx) rfl ?_
  unfold Tryz.f93
  simp only [↓Br_t, ↓Br_f, ↓Brg_t, ↓Brg_f, bnC, Kseq_app, Nat.reduceMul, Nat.reduceLeDiff, Nat.reduceEqDiff, Nat.reduceLT, Nat.reduceAdd, Nat.reduceSub, ↓reduceIte, implies_true, reduceCtorEq, ne_eq, ↓shr_eq, IntKind.bits, Int.reduceToNat, Int.reducePow, dite_eq_ite, Value.oneCell', Nat.reduceBEq, Nat.reduceDiv, bnS, bnN, bnT, spB, vl_dg, W32_dg, unW_wds, wV, sdf, wds_nil, SBi, SBsf, SBnf, SBmf, SBgh, pN, bI]
  refine DrawC.sch [(0, some []), (1, some []), (2, some []), (3, some []), (4, some []), (5, some []), (6, some []), (7, some []), (8, some []), (9, some []), (10, some []), (11, some []), (12, some []), (13, some []), (14, some []), (15, some []), (16, some []), (17, some []), (18, none), (19, some []), (20, some []), (21, none), (22, some [0, 1])] [(21, [0, 1])] (by kernel_rfl) ?_
  simp only [↓Br_t, ↓Br_f, ↓Brg_t, ↓Brg_f, bnC, Kseq_app, Nat.reduceMul, Nat.reduceLeDiff, Nat.reduceEqDiff, Nat.reduceLT, Nat.reduceAdd, Nat.reduceSub, ↓reduceIte, implies_true, reduceCtorEq, ne_eq, ↓shr_eq, IntKind.bits, Int.reduceToNat, Int.reducePow, dite_eq_ite, Value.oneCell', Nat.reduceBEq, Nat.reduceDiv, bnS, bnN, bnT, spB, vl_dg, W32_dg, unW_wds, wV, sdf, wds_nil, SBi, SBsf, SBnf, SBmf, SBgh, pN, bI]
  refine ⟨.of (by omega), .of (by omega), .inr trivial, .inl ?_⟩
  simp only [↓Br_t, ↓Br_f, ↓Brg_t, ↓Brg_f, bnC, Kseq_app, Nat.reduceMul, Nat.reduceLeDiff, Nat.reduceEqDiff, Nat.reduceLT, Nat.reduceAdd, Nat.reduceSub, ↓reduceIte, implies_true, reduceCtorEq, ne_eq, ↓shr_eq, IntKind.bits, Int.reduceToNat, Int.reducePow, dite_eq_ite, Value.oneCell', Nat.reduceBEq, Nat.reduceDiv, bnS, bnN, bnT, spB, vl_dg, W32_dg, unW_wds, wV, sdf, wds_nil]
  exact Nat.le_refl _
theorem bAddP_fn (J : Inv) (k nx : Nat) (bx : Bool) (x y : Nat) (hx : (dg x).length ≤ 100000) (hy : (dg y).length ≤ 100000) : FnH Tryz.prog J 60 [.op k 0, .op k 0, pN y] [(k, .box 59 (bI bx x))] nx (.op k 0) [(k, .box 59 (bI (sumB bx x false y && decide (0 < (dg (sumN bx x false y)).length)) (sumN bx x false y)))] nx := by
  refine fnH_intro Tryz.func60 rfl (by kernel_rfl) (Nat.le_of_ble_eq_true (by kernel_rfl)) (by kernel_rfl) (by kernel_rfl) (SBi_ok J nx) rfl ?_
  unfold Tryz.f60
  simp only [↓Br_t, ↓Br_f, ↓Brg_t, ↓Brg_f, bnC, Kseq_app, Nat.reduceMul, Nat.reduceLeDiff, Nat.reduceEqDiff, Nat.reduceLT, Nat.reduceAdd, Nat.reduceSub, ↓reduceIte, implies_true, reduceCtorEq, ne_eq, ↓shr_eq, IntKind.bits, Int.reduceToNat, Int.reducePow, dite_eq_ite, Value.oneCell', Nat.reduceBEq, Nat.reduceDiv, bnS, bnN, bnT, spB, vl_dg, W32_dg, unW_wds, wV, sdf, wds_nil, SBi, SBsf, SBnf, SBmf, SBgh, pN, bI]
  refine DrawC.sch [(0, some []), (1, some []), (2, some []), (3, some []), (4, some []), (5, some []), (6, some []), (7, some []), (8, some []), (9, some []), (10, some []), (11, some []), (12, some []), (13, some []), (14, some []), (15, some []), (16, some []), (17, none), (18, some []), (19, some []), (20, none), (21, some [0, 1])] [(20, [0, 1])] (by kernel_rfl) ?_
  simp only [↓Br_t, ↓Br_f, ↓Brg_t, ↓Brg_f, bnC, Kseq_app, Nat.reduceMul, Nat.reduceLeDiff, Nat.reduceEqDiff, Nat.reduceLT, Nat.reduceAdd, Nat.reduceSub, ↓reduceIte, implies_true, reduceCtorEq, ne_eq, ↓shr_eq, IntKind.bits, Int.reduceToNat, Int.reducePow, dite_eq_ite, Value.oneCell', Nat.reduceBEq, Nat.reduceDiv, bnS, bnN, bnT, spB, vl_dg, W32_dg, unW_wds, wV, sdf, wds_nil, SBi, SBsf, SBnf, SBmf, SBgh, pN, bI]
  refine ⟨.of (by omega), .of (by omega), .inr trivial, .inl ?_⟩
  simp only [↓Br_t, ↓Br_f, ↓Brg_t, ↓Brg_f, bnC, Kseq_app, Nat.reduceMul, Nat.reduceLeDiff, Nat.reduceEqDiff, Nat.reduceLT, Nat.reduceAdd, Nat.reduceSub, ↓reduceIte, implies_true, reduceCtorEq, ne_eq, ↓shr_eq, IntKind.bits, Int.reduceToNat, Int.reducePow, dite_eq_ite, Value.oneCell', Nat.reduceBEq, Nat.reduceDiv, bnS, bnN, bnT, spB, vl_dg, W32_dg, unW_wds, wV, sdf, wds_nil]
  exact Nat.le_refl _
theorem bAddO_fn (J : Inv) (k nx : Nat) (k2 : Nat) (h1 : (k = k2) = False) (bx : Bool) (x y : Nat) (hx : (dg x).length ≤ 100000) (hy : (dg y).length ≤ 100000) : FnH Tryz.prog J 60 [.op k 0, .op k 0, .op k2 0] [(k, .box 59 (bI bx x)), (k2, .box 59 (bI false y))] nx (.op k 0) [(k, .box 59 (bI (sumB bx x false y && decide (0 < (dg (sumN bx x false y)).length)) (sumN bx x false y))), (k2, .box 59 (bI false y))] nx := by
  refine fnH_intro Tryz.func60 rfl (by kernel_rfl) (Nat.le_of_ble_eq_true (by kernel_rfl)) (by kernel_rfl) (by kernel_rfl) (SBi_ok J nx) rfl ?_
  unfold Tryz.f60
  simp only [↓Br_t, ↓Br_f, ↓Brg_t, ↓Brg_f, bnC, Kseq_app, Nat.reduceMul, Nat.reduceLeDiff, Nat.reduceEqDiff, Nat.reduceLT, Nat.reduceAdd, Nat.reduceSub, ↓reduceIte, implies_true, reduceCtorEq, ne_eq, ↓shr_eq, IntKind.bits, Int.reduceToNat, Int.reducePow, dite_eq_ite, Value.oneCell', Nat.reduceBEq, Nat.reduceDiv, bnS, bnN, bnT, spB, vl_dg, W32_dg, unW_wds, wV, sdf, wds_nil, SBi, SBsf, SBnf, SBmf, SBgh, pN, bI, h1]
  refine DrawC.sch [(0, some []), (1, some []), (2, some []), (3, some []), (4, some []), (5, some []), (6, some []), (7, some []), (8, some []), (9, some []), (10, some []), (11, some []), (12, some []), (13, some []), (14, some []), (15, some []), (16, some []), (17, none), (18, some []), (19, some []), (20, none), (21, some [0, 1])] [(20, [0, 1])] (by kernel_rfl) ?_
  simp only [↓Br_t, ↓Br_f, ↓Brg_t, ↓Brg_f, bnC, Kseq_app, Nat.reduceMul, Nat.reduceLeDiff, Nat.reduceEqDiff, Nat.reduceLT, Nat.reduceAdd, Nat.reduceSub, ↓reduceIte, implies_true, reduceCtorEq, ne_eq, ↓shr_eq, IntKind.bits, Int.reduceToNat, Int.reducePow, dite_eq_ite, Value.oneCell', Nat.reduceBEq, Nat.reduceDiv, bnS, bnN, bnT, spB, vl_dg, W32_dg, unW_wds, wV, sdf, wds_nil, SBi, SBsf, SBnf, SBmf, SBgh, pN, bI, h1]
  refine ⟨.of (by omega), .of (by omega), .inr trivial, .inl ?_⟩
  simp only [↓Br_t, ↓Br_f, ↓Brg_t, ↓Brg_f, bnC, Kseq_app, Nat.reduceMul, Nat.reduceLeDiff, Nat.reduceEqDiff, Nat.reduceLT, Nat.reduceAdd, Nat.reduceSub, ↓reduceIte, implies_true, reduceCtorEq, ne_eq, ↓shr_eq, IntKind.bits, Int.reduceToNat, Int.reducePow, dite_eq_ite, Value.oneCell', Nat.reduceBEq, Nat.reduceDiv, bnS, bnN, bnT, spB, vl_dg, W32_dg, unW_wds, wV, sdf, wds_nil, h1]
  exact Nat.le_refl _
theorem bSetI_fn (J : Inv) (k nx : Nat) (b0 v0 : V) (x : Nat) (hx : x < 9223372036854775808) : FnH Tryz.prog J 114 [.op k 0, .i x] [(k, .box 59 (.st [b0, v0]))] nx (.op k 0) [(k, .box 59 (bI false x))] nx := by
  refine fnH_intro Tryz.func114 rfl (by kernel_rfl) (Nat.le_of_ble_eq_true (by kernel_rfl)) (by kernel_rfl) (by kernel_rfl) (SBi_ok J nx) rfl ?_
  unfold Tryz.f114
  simp only [↓Br_t, ↓Br_f, ↓Brg_t, ↓Brg_f, bnC, Kseq_app, Nat.reduceMul, Nat.reduceLeDiff, Nat.reduceEqDiff, Nat.reduceLT, Nat.reduceAdd, Nat.reduceSub, ↓reduceIte, implies_true, reduceCtorEq, ne_eq, ↓shr_eq, IntKind.bits, Int.reduceToNat, Int.reducePow, dite_eq_ite, Value.oneCell', Nat.reduceBEq, Nat.reduceDiv, bnS, bnN, bnT, spB, vl_dg, W32_dg, unW_wds, wV, sdf, wds_nil, SBi, SBsf, SBnf, SBmf, SBgh, pN, bI]
  have e : wr .u64 (x : Int) = x := wr64n (by omega)
  rw [e]
  refine ⟨fun h => absurd h (by rw [decide_eq_true_eq]; omega), fun _ => ⟨by omega, by omega, .inl ?_⟩⟩
  have e2 : decide ((x : Int) < 0) = false := decide_eq_false (by omega)
  simp only [↓Br_t, ↓Br_f, ↓Brg_t, ↓Brg_f, bnC, Kseq_app, Nat.reduceMul, Nat.reduceLeDiff, Nat.reduceEqDiff, Nat.reduceLT, Nat.reduceAdd, Nat.reduceSub, ↓reduceIte, implies_true, reduceCtorEq, ne_eq, ↓shr_eq, IntKind.bits, Int.reduceToNat, Int.reducePow, dite_eq_ite, Value.oneCell', Nat.reduceBEq, Nat.reduceDiv, bnS, bnN, bnT, spB, vl_dg, W32_dg, unW_wds, wV, sdf, wds_nil, e2]
  exact Nat.le_refl _
theorem bCmp_fn (J : Inv) (x y : Nat) (hx : (dg x).length ≤ 100000) (hy : (dg y).length ≤ 100000) : Fn Tryz.prog J 61 false [pN x, pN y] (.i (cmp3 x y)) := by
  refine fn_intro Tryz.func61 rfl (by kernel_rfl) (Nat.le_of_ble_eq_true (by kernel_rfl)) (by kernel_rfl) (by kernel_rfl) rfl (SBs_ok J) ?_
  unfold Tryz.f61
  simp only [↓Br_t, ↓Br_f, ↓Brg_t, ↓Brg_f, bnC, Kseq_app, Nat.reduceMul, Nat.reduceLeDiff, Nat.reduceEqDiff, Nat.reduceLT, Nat.reduceAdd, Nat.reduceSub, ↓reduceIte, implies_true, reduceCtorEq, ne_eq, ↓shr_eq, IntKind.bits, Int.reduceToNat, Int.reducePow, dite_eq_ite, Value.oneCell', Nat.reduceBEq, Nat.reduceDiv, bnS, bnN, bnT, spB, vl_dg, W32_dg, unW_wds, wV, sdf, wds_nil, SBs, SBsf, SBnf, SBmf, pN]
  refine DrawC.sch [(0, some []), (1, some []), (2, some []), (3, some []), (4, some []), (5, some []), (6, some []), (7, some []), (8, none), (9, some [])] [] (by kernel_rfl) ?_
  simp only [↓Br_t, ↓Br_f, ↓Brg_t, ↓Brg_f, bnC, Kseq_app, Nat.reduceMul, Nat.reduceLeDiff, Nat.reduceEqDiff, Nat.reduceLT, Nat.reduceAdd, Nat.reduceSub, ↓reduceIte, implies_true, reduceCtorEq, ne_eq, ↓shr_eq, IntKind.bits, Int.reduceToNat, Int.reducePow, dite_eq_ite, Value.oneCell', Nat.reduceBEq, Nat.reduceDiv, bnS, bnN, bnT, spB, vl_dg, W32_dg, unW_wds, wV, sdf, wds_nil, SBs, SBsf, SBnf, SBmf, pN]
  exact ⟨.of (by omega), .of (by omega)⟩
theorem uint_step {x : List Nat} {i : Nat} (hw : W32 x) (hi : i < x.length) (hl : x.length ≤ 2) : bt .or .u64 ((vl (x.take i) : Nat) : Int) (wr .u64 (wr .u64 ((x.getD i 0 : Nat) : Int) * 2 ^ (32 * i))) = ((vl (x.take (i + 1)) : Nat) : Int) := by
  have h1 := hw.get i
  have h2 := vl_take_lt hw i
  have h3 := vl_take_succ x i
  have h4 := vl_take_lt hw (i + 1)
  have h5 : (2 : Int) ^ (32 * i) = ((4294967296 ^ i : Nat) : Int) := by rw [B_pow]; simp
  have h6 : 4294967296 ^ (i + 1) ≤ 4294967296 ^ 2 := Nat.pow_le_pow_right (by omega) (by omega)
  rw [h5, wr64n (by omega), ← Int.natCast_mul]
  rw [Nat.mul_comm (4294967296 ^ i)] at h3
  have h7 : x.getD i 0 * 4294967296 ^ i < 18446744073709551616 := by omega
  rw [wr64n h7, bt_eq, bits_or64 (by omega) h7]
  congr 1
  rw [h3, Nat.mul_comm, B_pow, or_add (by rw [← B_pow]; exact h2)]
def SGr0f : FuncId → List V → Option (List Prop × Bool × V) := fun f args =>
  if f = 51 then match args with
    | [.sq 1 da La] => some ([da = .val (.int .u32 0), La = wds (unW La), (unW La).length ≤ 1073741824, W32 (unW La)], false, wV (dg (vl (unW La))))
    | _ => none
  else none
def SGr0 (J : Inv) : Sig := ⟨J, sdf, SGr0f, noH, 0⟩
theorem SGr0_ok (J : Inv) : SigOk Tryz.prog (SGr0 J) := by
  refine .plain fun f args l fr r h hl => ?_
  change SGr0f f args = some (l, fr, r) at h
  unfold SGr0f at h
  split at h
  · rename_i hf; subst hf
    split at h
    · rename_i da La
      obtain ⟨rfl, rfl, rfl⟩ := jsome_tri h
      obtain ⟨qda, qla, c0, c1, -⟩ := hl.un
      subst qda
      have hp := (by have h := value_fn J (unW La) c0; rwa [trim_dg c1] at h)
      unfold wV at hp
      rw [← qla] at hp
      exact hp
    · exact absurd h (by simp)
  · exact absurd h (by simp)
theorem uint_fn (J : Inv) (a : List Nat) (ha : a.length ≤ 1073741824) (wa : W32 a) : Fn Tryz.prog J 25 false [wV a] (.tu [.val (.int .u64 (if vl a < 18446744073709551616 then vl a else 0 : Nat)), .bb (decide (vl a < 18446744073709551616))]) := by
  refine fn_intro Tryz.func25 rfl (by kernel_rfl) (Nat.le_of_ble_eq_true (by kernel_rfl)) (by kernel_rfl) (by kernel_rfl) rfl (SGr0_ok J) ?_
  unfold Tryz.f25
  simp only [↓Br_t, ↓Br_f, ↓Brg_t, ↓Brg_f, bnC, Kseq_app, Nat.reduceMul, Nat.reduceLeDiff, Nat.reduceEqDiff, Nat.reduceLT, Nat.reduceAdd, Nat.reduceSub, ↓reduceIte, implies_true, reduceCtorEq, ne_eq, ↓shr_eq, IntKind.bits, Int.reduceToNat, Int.reducePow, dite_eq_ite, Value.oneCell', Nat.reduceBEq, Nat.reduceDiv, bnS, bnN, bnT, spB, vl_dg, W32_dg, unW_wds, wV, sdf, wds_nil, SGr0, SGr0f]
  have hx := W32_dg (vl a)
  have hv := vl_dg (vl a)
  have hle : (dg (vl a)).length ≤ 2 ↔ vl a < 18446744073709551616 := ⟨fun h => by have h1 := dg_hi (vl a); have h2 := Nat.pow_le_pow_right (n := 4294967296) (by omega) h; omega, fun h => dg_len h⟩
  generalize dg (vl a) = x at *
  refine ⟨ha, wa, fun h => ?_, fun h => ?_⟩
  · have h1 : ¬ vl a < 18446744073709551616 := fun e => by have := hle.2 e; rw [decide_eq_true_eq] at h; omega
    rw [if_neg h1, decide_eq_false h1]
    exact ⟨rfl, rfl⟩
  · have h2 : x.length ≤ 2 := by rw [decide_eq_false_iff_not] at h; omega
    have h1 := hle.1 h2
    rw [if_pos h1, decide_eq_true h1]
    refine LoopC.intro (α := Nat) (fun i => i ≤ x.length) (fun i => ⟨[(13, wV x), (14, .i x.length), (15, .i i), (5, .val (.int .u64 (vl (x.take i) : Nat)))], [], 0⟩) (fun i => x.length - i) 0 (Nat.zero_le _) ?_ ?_
    · simp only [↓Br_t, ↓Br_f, ↓Brg_t, ↓Brg_f, bnC, Kseq_app, Nat.reduceMul, Nat.reduceLeDiff, Nat.reduceEqDiff, Nat.reduceLT, Nat.reduceAdd, Nat.reduceSub, ↓reduceIte, implies_true, reduceCtorEq, ne_eq, ↓shr_eq, IntKind.bits, Int.reduceToNat, Int.reducePow, dite_eq_ite, Value.oneCell', Nat.reduceBEq, Nat.reduceDiv, bnS, bnN, bnT, spB, vl_dg, W32_dg, unW_wds, wV, sdf, wds_nil]
      exact ⟨rfl, rfl⟩
    · intro i hi
      simp only [↓Br_t, ↓Br_f, ↓Brg_t, ↓Brg_f, bnC, Kseq_app, Nat.reduceMul, Nat.reduceLeDiff, Nat.reduceEqDiff, Nat.reduceLT, Nat.reduceAdd, Nat.reduceSub, ↓reduceIte, implies_true, reduceCtorEq, ne_eq, ↓shr_eq, IntKind.bits, Int.reduceToNat, Int.reducePow, dite_eq_ite, Value.oneCell', Nat.reduceBEq, Nat.reduceDiv, bnS, bnN, bnT, spB, vl_dg, W32_dg, unW_wds, wV, sdf, wds_nil, SGr0, SGr0f]
      refine ⟨fun hb => ?_, fun hb => ?_⟩
      · have hb : i < x.length := by simpa using hb
        have hs := uint_step hx hb h2
        refine ⟨by omega, by omega, by constructor <;> omega, by omega, by constructor <;> omega, Again.intro (i + 1) hb (by show x.length - (i + 1) < x.length - i; omega) ?_⟩
        simp only [↓Br_t, ↓Br_f, ↓Brg_t, ↓Brg_f, bnC, Kseq_app, Nat.reduceMul, Nat.reduceLeDiff, Nat.reduceEqDiff, Nat.reduceLT, Nat.reduceAdd, Nat.reduceSub, ↓reduceIte, implies_true, reduceCtorEq, ne_eq, ↓shr_eq, IntKind.bits, Int.reduceToNat, Int.reducePow, dite_eq_ite, Value.oneCell', Nat.reduceBEq, Nat.reduceDiv, bnS, bnN, bnT, spB, vl_dg, W32_dg, unW_wds, wV, sdf, wds_nil]
        rw [show (32 * (i : Int)).toNat = 32 * i by omega, if_pos (by omega)]
        exact ⟨by omega, hs⟩
      · have hi : i = x.length := by simp at hb; omega
        subst hi
        rw [List.take_length, hv]
def SGr1f : FuncId → List V → Option (List Prop × Bool × V) := fun f args =>
  if f = 24 then match args with
    | [.by b] => some ([b.length ≤ 67108864], false, wV (dg (nb b)))
    | _ => none
  else if f = 23 then match args with
    | [.sq 1 da La] => some ([da = .val (.int .u32 0), La = wds (unW La), (unW La).length ≤ 67108864, W32 (unW La)], false, .i (bl (vl (unW La))))
    | _ => none
  else if f = 25 then match args with
    | [.sq 1 da La] => some ([da = .val (.int .u32 0), La = wds (unW La), (unW La).length ≤ 1073741824, W32 (unW La)], false, .tu [.val (.int .u64 (if vl (unW La) < 18446744073709551616 then vl (unW La) else 0 : Nat)), .bb (decide (vl (unW La) < 18446744073709551616))])
    | _ => none
  else none
def SGr1 (J : Inv) : Sig := ⟨J, sdf, SGr1f, noH, 0⟩
theorem SGr1_ok (J : Inv) : SigOk Tryz.prog (SGr1 J) := by
  refine .plain fun f args l fr r h hl => ?_
  change SGr1f f args = some (l, fr, r) at h
  unfold SGr1f at h
  split at h
  · rename_i hf; subst hf
    split at h
    · rename_i b
      obtain ⟨rfl, rfl, rfl⟩ := jsome_tri h
      obtain ⟨c0, -⟩ := hl.un
      have hp := fromBytes_fn J b c0
      exact hp
    · exact absurd h (by simp)
  · split at h
    · rename_i hf; subst hf
      split at h
      · rename_i da La
        obtain ⟨rfl, rfl, rfl⟩ := jsome_tri h
        obtain ⟨qda, qla, c0, c1, -⟩ := hl.un
        subst qda
        have hp := bits_fn J (unW La) c0 c1
        unfold wV at hp
        rw [← qla] at hp
        exact hp
      · exact absurd h (by simp)
    · split at h
      · rename_i hf; subst hf
        split at h
        · rename_i da La
          obtain ⟨rfl, rfl, rfl⟩ := jsome_tri h
          obtain ⟨qda, qla, c0, c1, -⟩ := hl.un
          subst qda
          have hp := uint_fn J (unW La) c0 c1
          unfold wV at hp
          rw [← qla] at hp
          exact hp
        · exact absurd h (by simp)
      · exact absurd h (by simp)
/-- The outer looks at an RSA key's bytes. -/
def rsA (n e : List UInt8) : Bool := (n.length : Int) == 0 || byteAt n 0 == 0 || byteAt n ((n.length : Int) - 1).toNat % 2 == 0 || (e.length : Int) == 0 || byteAt e 0 == 0
def rsU (e : List UInt8) : Nat := if nb e < 18446744073709551616 then nb e else 0
def rsB (n e : List UInt8) : Bool := decide ((bl (nb n) : Int) < 2048) || decide (4096 < (bl (nb n) : Int)) || !decide (nb e < 18446744073709551616) || (rsU e : Int) % 2 == 0 || decide ((rsU e : Int) < 3) || decide (4294967295 < (rsU e : Int))
def rsC (n e : List UInt8) : Int := if (rsA n e || rsB n e) = true then 90 else 0
theorem nb_words {b : List UInt8} {k : Nat} (h : b.length ≤ 4 * k) : nb b < 4294967296 ^ k := by
  refine Nat.lt_of_lt_of_le (nb_lt b) ?_
  rw [B_256]
  exact Nat.pow_le_pow_right (by omega) h
theorem nb_dg_len (b : List UInt8) : (dg (nb b)).length ≤ b.length / 4 + 1 := dg_len (nb_words (by omega))
theorem key_fn (J : Inv) (n e : List UInt8) (hn : n.length ≤ 67108864) (he : e.length ≤ 67108864) : Fn Tryz.prog J 16 false [.by n, .by e] (.i (rsC n e)) := by
  refine fn_intro Tryz.func16 rfl (by kernel_rfl) (Nat.le_of_ble_eq_true (by kernel_rfl)) (by kernel_rfl) (by kernel_rfl) rfl (SGr1_ok J) ?_
  unfold Tryz.f16
  simp only [↓Br_t, ↓Br_f, ↓Brg_t, ↓Brg_f, bnC, Kseq_app, Nat.reduceMul, Nat.reduceLeDiff, Nat.reduceEqDiff, Nat.reduceLT, Nat.reduceAdd, Nat.reduceSub, ↓reduceIte, implies_true, reduceCtorEq, ne_eq, ↓shr_eq, IntKind.bits, Int.reduceToNat, Int.reducePow, dite_eq_ite, Value.oneCell', Nat.reduceBEq, Nat.reduceDiv, bnS, bnN, bnT, spB, vl_dg, W32_dg, unW_wds, wV, sdf, wds_nil, SGr1, SGr1f]
  have ln := nb_dg_len n
  have le := nb_dg_len e
  have hu : (if nb e < 18446744073709551616 then nb e else 0) = rsU e := rfl
  rw [hu]
  refine ⟨fun h => by omega, fun h => by simp only [Bool.or_eq_false_iff, beq_eq_false_iff_ne, ne_eq] at h; omega, fun h => by simp only [Bool.or_eq_false_iff, beq_eq_false_iff_ne, ne_eq] at h; constructor <;> omega, fun h => by simp only [Bool.or_eq_false_iff, beq_eq_false_iff_ne, ne_eq] at h; omega, fun h => by simp only [Bool.or_eq_false_iff, beq_eq_false_iff_ne, ne_eq] at h; omega, fun h => byteAt_lo _ _, fun h => by omega, fun h => by omega, fun h => by simp only [Bool.or_eq_false_iff, beq_eq_false_iff_ne, ne_eq] at h; omega, fun h => ?_, fun h => ⟨hn, by omega, he, by omega, fun h => by omega, fun h => by omega, fun h2 => ?_, fun h2 => ?_⟩⟩
  · have ha : rsA n e = true := h
    unfold rsC
    rw [ha, Bool.true_or, if_pos rfl]
  · have ha : rsA n e = false := h
    have hb : rsB n e = true := h2
    unfold rsC
    rw [ha, hb, Bool.false_or, if_pos rfl]
  · have ha : rsA n e = false := h
    have hb : rsB n e = false := h2
    unfold rsC
    rw [ha, hb, Bool.false_or, if_neg (by simp)]
end Go.Proofs.YtmpklnhmempmgaaGreatDoor
