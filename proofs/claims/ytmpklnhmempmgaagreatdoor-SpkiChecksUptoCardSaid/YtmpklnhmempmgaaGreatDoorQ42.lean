/- The reference's curves: sums and products; is a point on the curve; the point of two coordinates. The reference's keys: is it a right key?. -/
import Derived.Test.YtmpklnhmempmgaaGreatDoorQ39
import Derived.Test.YtmpklnhmempmgaaGreatDoorQ41
namespace Go.Proofs.YtmpklnhmempmgaaGreatDoor
open Go.RowKit
set_option linter.unusedSimpArgs false
set_option maxRecDepth 100000
theorem crvP_l (c : Int) : (dg (crvP c)).length ≤ 100 := by unfold crvP; split; exact p256_l; exact p384_l
theorem crvP_l3 (c : Int) : 3 ≤ (dg (crvP c)).length := by unfold crvP; split; exact p256_l3; exact p384_l3
theorem crvB_l (c : Int) : (dg (crvB c)).length ≤ 100 := by unfold crvB; split; exact b256_l; exact b384_l
theorem crvP_2 (c : Int) : 2 ≤ crvP c := by
  rcases Nat.lt_or_ge (crvP c) 2 with h | h
  · have h1 := dg_len (n := crvP c) (k := 1) (by omega)
    have h2 := crvP_l3 c
    omega
  · exact h
theorem crvP_S (c : Int) : S7 (dg (crvP c)) := .dg (by have := crvP_l c; omega)
theorem crv_S (c : Int) (x : Nat) : S7 (dg (x % crvP c)) := .lt (Nat.mod_lt x (by have := crvP_2 c; omega)) (by have := crvP_l c; omega)
theorem crvB_S (c : Int) : S7 (dg (crvB c)) := .dg (by have := crvB_l c; omega)
def RGaf : FuncId → List V → Option (List Prop × Bool × V) := fun f args =>
  if f = 81 then match args with
    | [.val (.int .i64 c)] => some ([c = 1 ∨ c = 2], false, wV (dg (crvP c)))
    | _ => none
  else if f = 107 then match args with
    | [.sq 1 da La, .sq 1 db Lb, .sq 1 dm Lm] => some ([da = .val (.int .u32 0), La = wds (unW La), db = .val (.int .u32 0), Lb = wds (unW Lb), dm = .val (.int .u32 0), Lm = wds (unW Lm), S7 (unW La), S7 (unW Lb), S7 (unW Lm), 2 ≤ vl (unW Lm)], false, .tu [wV (dg ((vl (unW La) + vl (unW Lb)) % vl (unW Lm))), .i 0])
    | _ => none
  else if f = 108 then match args with
    | [.sq 1 da La, .sq 1 db Lb, .sq 1 dm Lm] => some ([da = .val (.int .u32 0), La = wds (unW La), db = .val (.int .u32 0), Lb = wds (unW Lb), dm = .val (.int .u32 0), Lm = wds (unW Lm), S7 (unW La), S7 (unW Lb), S7 (unW Lm), 2 ≤ vl (unW Lm)], false, .tu [wV (dg (subM (vl (unW La) % vl (unW Lm)) (vl (unW Lb) % vl (unW Lm)) (vl (unW Lm)))), .i 0])
    | _ => none
  else if f = 109 then match args with
    | [.sq 1 da La, .sq 1 db Lb, .sq 1 dm Lm] => some ([da = .val (.int .u32 0), La = wds (unW La), db = .val (.int .u32 0), Lb = wds (unW Lb), dm = .val (.int .u32 0), Lm = wds (unW Lm), S7 (unW La), S7 (unW Lb), S7 (unW Lm), 2 ≤ vl (unW Lm)], false, .tu [wV (dg (vl (unW La) * vl (unW Lb) % vl (unW Lm))), .i 0])
    | _ => none
  else none
def RGa (J : Inv) : Sig := ⟨J, sdf, RGaf, noH, 0⟩
theorem RGa_ok (J : Inv) : SigOk Tryz.prog (RGa J) := by
  refine .plain fun f args l fr r h hl => ?_
  change RGaf f args = some (l, fr, r) at h
  unfold RGaf at h
  split at h
  · rename_i hf; subst hf
    split at h
    · rename_i c
      obtain ⟨rfl, rfl, rfl⟩ := jsome_tri h
      obtain ⟨c0, -⟩ := hl.un
      have hp := crv_field_fn J c c0
      exact hp
    · exact absurd h (by simp)
  · split at h
    · rename_i hf; subst hf
      split at h
      · rename_i da La db Lb dm Lm
        obtain ⟨rfl, rfl, rfl⟩ := jsome_tri h
        obtain ⟨qda, qla, qdb, qlb, qdm, qlm, c0, c1, c2, c3, -⟩ := hl.un
        subst qda qdb qdm
        have hp := add7_fn J (unW La) (unW Lb) (unW Lm) c0 c1 c2 c3
        unfold wV at hp
        rw [← qla, ← qlb, ← qlm] at hp
        exact hp
      · exact absurd h (by simp)
    · split at h
      · rename_i hf; subst hf
        split at h
        · rename_i da La db Lb dm Lm
          obtain ⟨rfl, rfl, rfl⟩ := jsome_tri h
          obtain ⟨qda, qla, qdb, qlb, qdm, qlm, c0, c1, c2, c3, -⟩ := hl.un
          subst qda qdb qdm
          have hp := sub7_fn J (unW La) (unW Lb) (unW Lm) c0 c1 c2 c3
          unfold wV at hp
          rw [← qla, ← qlb, ← qlm] at hp
          exact hp
        · exact absurd h (by simp)
      · split at h
        · rename_i hf; subst hf
          split at h
          · rename_i da La db Lb dm Lm
            obtain ⟨rfl, rfl, rfl⟩ := jsome_tri h
            obtain ⟨qda, qla, qdb, qlb, qdm, qlm, c0, c1, c2, c3, -⟩ := hl.un
            subst qda qdb qdm
            have hp := mul7_fn J (unW La) (unW Lb) (unW Lm) c0 c1 c2 c3
            unfold wV at hp
            rw [← qla, ← qlb, ← qlm] at hp
            exact hp
          · exact absurd h (by simp)
        · exact absurd h (by simp)
section
variable (J : Inv) (c : Int) (hc : c = 1 ∨ c = 2) (x y : List Nat) (hx : S7 x) (hy : S7 y)
include hc hx hy
theorem add11_fn : Fn Tryz.prog J 82 false [.i c, wV x, wV y] (wV (dg ((vl x + vl y) % crvP c))) := by
  refine fn_intro Tryz.func82 rfl (by kernel_rfl) (Nat.le_of_ble_eq_true (by kernel_rfl)) (by kernel_rfl) (by kernel_rfl) (wV_cl _) (RGa_ok J) ?_
  unfold Tryz.f82
  simp only [bnC, Kseq_app, Nat.reduceMul, Nat.reduceLeDiff, Nat.reduceEqDiff, Nat.reduceLT, Nat.reduceAdd, Nat.reduceSub, ↓reduceIte, implies_true, reduceCtorEq, ne_eq, ↓shr_eq, IntKind.bits, Int.reduceToNat, Int.reducePow, dite_eq_ite, Value.oneCell', Nat.reduceBEq, Nat.reduceDiv, bnS, bnN, bnT, spB, vl_dg, W32_dg, unW_wds, wV, sdf, wds_nil, RGa, RGaf]
  exact ⟨hc, hx, hy, crvP_S c, crvP_2 c⟩
theorem sub11_fn : Fn Tryz.prog J 83 false [.i c, wV x, wV y] (wV (dg (subM (vl x % crvP c) (vl y % crvP c) (crvP c)))) := by
  refine fn_intro Tryz.func83 rfl (by kernel_rfl) (Nat.le_of_ble_eq_true (by kernel_rfl)) (by kernel_rfl) (by kernel_rfl) (wV_cl _) (RGa_ok J) ?_
  unfold Tryz.f83
  simp only [bnC, Kseq_app, Nat.reduceMul, Nat.reduceLeDiff, Nat.reduceEqDiff, Nat.reduceLT, Nat.reduceAdd, Nat.reduceSub, ↓reduceIte, implies_true, reduceCtorEq, ne_eq, ↓shr_eq, IntKind.bits, Int.reduceToNat, Int.reducePow, dite_eq_ite, Value.oneCell', Nat.reduceBEq, Nat.reduceDiv, bnS, bnN, bnT, spB, vl_dg, W32_dg, unW_wds, wV, sdf, wds_nil, RGa, RGaf]
  exact ⟨hc, hx, hy, crvP_S c, crvP_2 c⟩
theorem mul11_fn : Fn Tryz.prog J 84 false [.i c, wV x, wV y] (wV (dg (vl x * vl y % crvP c))) := by
  refine fn_intro Tryz.func84 rfl (by kernel_rfl) (Nat.le_of_ble_eq_true (by kernel_rfl)) (by kernel_rfl) (by kernel_rfl) (wV_cl _) (RGa_ok J) ?_
  unfold Tryz.f84
  simp only [bnC, Kseq_app, Nat.reduceMul, Nat.reduceLeDiff, Nat.reduceEqDiff, Nat.reduceLT, Nat.reduceAdd, Nat.reduceSub, ↓reduceIte, implies_true, reduceCtorEq, ne_eq, ↓shr_eq, IntKind.bits, Int.reduceToNat, Int.reducePow, dite_eq_ite, Value.oneCell', Nat.reduceBEq, Nat.reduceDiv, bnS, bnN, bnT, spB, vl_dg, W32_dg, unW_wds, wV, sdf, wds_nil, RGa, RGaf]
  exact ⟨hc, hx, hy, crvP_S c, crvP_2 c⟩
end
def RGbf : FuncId → List V → Option (List Prop × Bool × V) := fun f args =>
  if f = 81 then match args with
    | [.val (.int .i64 c)] => some ([c = 1 ∨ c = 2], false, wV (dg (crvP c)))
    | _ => none
  else if f = 85 then match args with
    | [.val (.int .i64 c)] => some ([c = 1 ∨ c = 2], false, wV (dg (crvB c)))
    | _ => none
  else if f = 82 then match args with
    | [.val (.int .i64 c), .sq 1 da La, .sq 1 db Lb] => some ([da = .val (.int .u32 0), La = wds (unW La), db = .val (.int .u32 0), Lb = wds (unW Lb), c = 1 ∨ c = 2, S7 (unW La), S7 (unW Lb)], false, wV (dg ((vl (unW La) + vl (unW Lb)) % crvP c)))
    | _ => none
  else if f = 83 then match args with
    | [.val (.int .i64 c), .sq 1 da La, .sq 1 db Lb] => some ([da = .val (.int .u32 0), La = wds (unW La), db = .val (.int .u32 0), Lb = wds (unW Lb), c = 1 ∨ c = 2, S7 (unW La), S7 (unW Lb)], false, wV (dg (subM (vl (unW La) % crvP c) (vl (unW Lb) % crvP c) (crvP c))))
    | _ => none
  else if f = 84 then match args with
    | [.val (.int .i64 c), .sq 1 da La, .sq 1 db Lb] => some ([da = .val (.int .u32 0), La = wds (unW La), db = .val (.int .u32 0), Lb = wds (unW Lb), c = 1 ∨ c = 2, S7 (unW La), S7 (unW Lb)], false, wV (dg (vl (unW La) * vl (unW Lb) % crvP c)))
    | _ => none
  else if f = 79 then match args with
    | [.sq 1 dl Ll] => some ([dl = .val (.int .u32 0), Ll = wds (unW Ll), (unW Ll).length ≤ 67108864, W32 (unW Ll)], false, wV (dg (vl (unW Ll))))
    | _ => none
  else if f = 34 then match args with
    | [.val (.int .i64 c)] => some ([], false, .val (.int .i64 (crvS c)))
    | _ => none
  else if f = 80 then match args with
    | [.sq 1 da La, .sq 1 db Lb] => some ([da = .val (.int .u32 0), La = wds (unW La), db = .val (.int .u32 0), Lb = wds (unW Lb), (unW La).length ≤ 67108864, (unW Lb).length ≤ 67108864, W32 (unW La), W32 (unW Lb)], false, .i (cmp3 (vl (unW La)) (vl (unW Lb))))
    | _ => none
  else none
def RGb (J : Inv) : Sig := ⟨J, sdf, RGbf, noH, 0⟩
theorem RGb_ok (J : Inv) : SigOk Tryz.prog (RGb J) := by
  refine .plain fun f args l fr r h hl => ?_
  change RGbf f args = some (l, fr, r) at h
  unfold RGbf at h
  split at h
  · rename_i hf; subst hf
    split at h
    · rename_i c
      obtain ⟨rfl, rfl, rfl⟩ := jsome_tri h
      obtain ⟨c0, -⟩ := hl.un
      have hp := crv_field_fn J c c0
      exact hp
    · exact absurd h (by simp)
  · split at h
    · rename_i hf; subst hf
      split at h
      · rename_i c
        obtain ⟨rfl, rfl, rfl⟩ := jsome_tri h
        obtain ⟨c0, -⟩ := hl.un
        have hp := crv_b_fn J c c0
        exact hp
      · exact absurd h (by simp)
    · split at h
      · rename_i hf; subst hf
        split at h
        · rename_i c da La db Lb
          obtain ⟨rfl, rfl, rfl⟩ := jsome_tri h
          obtain ⟨qda, qla, qdb, qlb, c0, c1, c2, -⟩ := hl.un
          subst qda qdb
          have hp := add11_fn J c c0 (unW La) (unW Lb) c1 c2
          unfold wV at hp
          rw [← qla, ← qlb] at hp
          exact hp
        · exact absurd h (by simp)
      · split at h
        · rename_i hf; subst hf
          split at h
          · rename_i c da La db Lb
            obtain ⟨rfl, rfl, rfl⟩ := jsome_tri h
            obtain ⟨qda, qla, qdb, qlb, c0, c1, c2, -⟩ := hl.un
            subst qda qdb
            have hp := sub11_fn J c c0 (unW La) (unW Lb) c1 c2
            unfold wV at hp
            rw [← qla, ← qlb] at hp
            exact hp
          · exact absurd h (by simp)
        · split at h
          · rename_i hf; subst hf
            split at h
            · rename_i c da La db Lb
              obtain ⟨rfl, rfl, rfl⟩ := jsome_tri h
              obtain ⟨qda, qla, qdb, qlb, c0, c1, c2, -⟩ := hl.un
              subst qda qdb
              have hp := mul11_fn J c c0 (unW La) (unW Lb) c1 c2
              unfold wV at hp
              rw [← qla, ← qlb] at hp
              exact hp
            · exact absurd h (by simp)
          · split at h
            · rename_i hf; subst hf
              split at h
              · rename_i dl Ll
                obtain ⟨rfl, rfl, rfl⟩ := jsome_tri h
                obtain ⟨qdl, qll, c0, c1, -⟩ := hl.un
                subst qdl
                have hp := proper11_fn J (unW Ll) c0 c1
                unfold wV at hp
                rw [← qll] at hp
                exact hp
              · exact absurd h (by simp)
            · split at h
              · rename_i hf; subst hf
                split at h
                · rename_i c
                  obtain ⟨rfl, rfl, rfl⟩ := jsome_tri h
                  have hp := size11_fn J c
                  exact hp
                · exact absurd h (by simp)
              · split at h
                · rename_i hf; subst hf
                  split at h
                  · rename_i da La db Lb
                    obtain ⟨rfl, rfl, rfl⟩ := jsome_tri h
                    obtain ⟨qda, qla, qdb, qlb, c0, c1, c2, c3, -⟩ := hl.un
                    subst qda qdb
                    have hp := cmp6_fn J (unW La) (unW Lb) c0 c1 c2 c3
                    unfold wV at hp
                    rw [← qla, ← qlb] at hp
                    exact hp
                  · exact absurd h (by simp)
                · exact absurd h (by simp)
theorem crvS_ne (c : Int) (hc : c = 1 ∨ c = 2) : (crvS c == 0) = false := by rcases hc with rfl | rfl <;> rfl
theorem vl_3 : vl [3] = 3 := vl_one 3
theorem unW_3 : unW [V.val (.int .u32 3)] = [3] := rfl
theorem on11_fn (J : Inv) (c : Int) (hc : c = 1 ∨ c = 2) (x y : List Nat) (hx : S7 x) (hy : S7 y) : Fn Tryz.prog J 36 false [.i c, .st [wV x, wV y, .bb false]] (.bb (crvOn (crvP c) (crvB c) (vl x) (vl y))) := by
  refine fn_intro Tryz.func36 rfl (by kernel_rfl) (Nat.le_of_ble_eq_true (by kernel_rfl)) (by kernel_rfl) (by kernel_rfl) rfl (RGb_ok J) ?_
  unfold Tryz.f36
  have hz := crvS_ne c hc
  simp only [bnC, Kseq_app, Nat.reduceMul, Nat.reduceLeDiff, Nat.reduceEqDiff, Nat.reduceLT, Nat.reduceAdd, Nat.reduceSub, ↓reduceIte, implies_true, reduceCtorEq, ne_eq, ↓shr_eq, IntKind.bits, Int.reduceToNat, Int.reducePow, dite_eq_ite, Value.oneCell', Nat.reduceBEq, Nat.reduceDiv, bnS, bnN, bnT, spB, vl_dg, W32_dg, unW_wds, wV, sdf, wds_nil, RGb, RGbf, hz]
  simp only [Br_f, unW_3, vl_3, cmp3_ge, cmp3_zero, Nat.mod_mod]
  have x1 := hx.l
  have x2 := hx.w
  have x3 := hx.n
  have y1 := hy.l
  have y2 := hy.w
  have y3 := hy.n
  have p1 := crvP_l c
  have x7 := S7.dg hx.n
  have y7 := S7.dg hy.n
  have p7 := crvB_S c
  have t7 := S7.one 3 (by omega)
  have t3 : [V.val (.int .u32 3)] = wds [3] := rfl
  have hp0 : 0 < crvP c := by have := crvP_2 c; omega
  have hm : ∀ v, (dg (v % crvP c)).length ≤ 100 := fun v => Nat.le_trans (dg_mono (Nat.le_of_lt (Nat.mod_lt v hp0))) p1
  have hm2 : ∀ v, (dg (v % crvP c)).length ≤ 67108864 := fun v => by have := hm v; omega
  have hs7 : ∀ a b, S7 (dg (subM a b (crvP c))) := fun a b => crv_S c _
  repeat (with_reducible refine And.intro ?_ ?_; · first | omega | assumption | exact crv_S c _ | (intro _; first | omega | assumption) | exact hm2 _ | exact hs7 _ _)
  refine ⟨fun h => ?_, fun h => ?_⟩
  · unfold crvOn
    rw [Bool.or_eq_true, decide_eq_true_eq, decide_eq_true_eq] at h
    rcases h with h | h
    · rw [decide_eq_false (show ¬ vl x < crvP c by omega), Bool.false_and]
    · rw [decide_eq_false (show ¬ vl y < crvP c by omega), Bool.false_and, Bool.and_false]
  · rw [Bool.or_eq_false_iff, decide_eq_false_iff_not, decide_eq_false_iff_not] at h
    repeat (with_reducible refine And.intro ?_ ?_; · first | omega | assumption | exact crv_S c _ | rfl | (intro _; first | omega | assumption) | exact hm2 _ | exact hs7 _ _)
    unfold crvOn crvR
    rw [decide_eq_true (show vl x < crvP c by omega), decide_eq_true (show vl y < crvP c by omega), Bool.true_and, Bool.true_and, subM_gsub (Nat.mod_lt _ hp0)]
    rw [Bool.eq_iff_iff, decide_eq_true_eq, beq_iff_eq]
def RGcf : FuncId → List V → Option (List Prop × Bool × V) := fun f args =>
  if f = 36 then match args with
    | [.val (.int .i64 c), .st [.sq 1 dx Lx, .sq 1 dy Ly, .bb b]] => some ([c = 1 ∨ c = 2, dx = .val (.int .u32 0), Lx = wds (unW Lx), dy = .val (.int .u32 0), Ly = wds (unW Ly), b = false, S7 (unW Lx), S7 (unW Ly)], false, .bb (crvOn (crvP c) (crvB c) (vl (unW Lx)) (vl (unW Ly))))
    | _ => none
  else none
def RGc (J : Inv) : Sig := ⟨J, sdf, RGcf, noH, 0⟩
theorem RGc_ok (J : Inv) : SigOk Tryz.prog (RGc J) := by
  refine .plain fun f args l fr r h hl => ?_
  change RGcf f args = some (l, fr, r) at h
  unfold RGcf at h
  split at h
  · rename_i hf; subst hf
    split at h
    · obtain ⟨rfl, rfl, rfl⟩ := jsome_tri h
      rename_i c dx Lx dy Ly b
      have q0 : c = 1 ∨ c = 2 := hl _ (by simp)
      have q1 : dx = .val (.int .u32 0) := hl _ (by simp)
      have q2 : Lx = wds (unW Lx) := hl _ (by simp)
      have q3 : dy = .val (.int .u32 0) := hl _ (by simp)
      have q4 : Ly = wds (unW Ly) := hl _ (by simp)
      have q5 : b = false := hl _ (by simp)
      subst q1 q3 q5
      have hp := on11_fn J c q0 (unW Lx) (unW Ly) (hl _ (by simp)) (hl _ (by simp))
      unfold wV at hp
      rw [← q2, ← q4] at hp
      exact hp
    · exact absurd h (by simp)
  · exact absurd h (by simp)
def RGdf : FuncId → List V → Option (List Prop × Bool × V) := fun f args =>
  if f = 34 then match args with
    | [.val (.int .i64 c)] => some ([], false, .val (.int .i64 (crvS c)))
    | _ => none
  else if f = 35 then match args with
    | [.by b] => some ([b.length ≤ 67108864], false, wV (dg (nb b)))
    | _ => none
  else RGcf f args
def RGd (J : Inv) : Sig := ⟨J, sdf, RGdf, noH, 0⟩
theorem RGd_ok (J : Inv) : SigOk Tryz.prog (RGd J) := by
  refine .plain fun f args l fr r h hl => ?_
  change RGdf f args = some (l, fr, r) at h
  unfold RGdf at h
  split at h
  · rename_i hf; subst hf
    split at h
    · rename_i c
      obtain ⟨rfl, rfl, rfl⟩ := jsome_tri h
      have hp := size11_fn J c
      exact hp
    · exact absurd h (by simp)
  · split at h
    · rename_i hf; subst hf
      split at h
      · rename_i b
        obtain ⟨rfl, rfl, rfl⟩ := jsome_tri h
        obtain ⟨c0, -⟩ := hl.un
        have hp := fromBytes6_fn J b c0
        exact hp
      · exact absurd h (by simp)
    · exact (RGc_ok J ).1 f args l fr r h hl
theorem cdec11_ok (J : Inv) (c : Int) (hc : c = 1 ∨ c = 2) (x y : List UInt8) (hx : (x.length : Int) = crvS c) (hy : (y.length : Int) = crvS c) (o : Bool) (ho : crvOn (crvP c) (crvB c) (nb x) (nb y) = o) : Fn Tryz.prog J 20 false [.i c, .by x, .by y] (.tu [crvPt o x y, .i (crvCo o)]) := by
  refine Fn.of_plain (nx := 10) (post := []) ?_ (by have := crvPt_cl o x y; simp [V.cl, clL, V.i, this])
  refine fnH_introC Tryz.func20 rfl (by kernel_rfl) (Nat.le_of_ble_eq_true (by kernel_rfl)) (by kernel_rfl) (by kernel_rfl) (RGd_ok J) rfl ?_
  unfold Tryz.f20
  have hz := crvS_ne c hc
  have h48 : crvS c ≤ 48 := by rcases hc with rfl | rfl <;> decide
  have e1 : ((x.length : Int) == crvS c) = true := by rw [beq_iff_eq]; exact hx
  have e2 : ((y.length : Int) == crvS c) = true := by rw [beq_iff_eq]; exact hy
  have lx := nb_dg_len x
  have ly := nb_dg_len y
  have sx : S7 (dg (nb x)) := .dg (by omega)
  have sy : S7 (dg (nb y)) := .dg (by omega)
  simp only [↓Br_t, ↓Br_f, ↓Brg_t, ↓Brg_f, bnC, Kseq_app, Nat.reduceMul, Nat.reduceLeDiff, Nat.reduceEqDiff, Nat.reduceLT, Nat.reduceAdd, Nat.reduceSub, ↓reduceIte, implies_true, reduceCtorEq, ne_eq, ↓shr_eq, IntKind.bits, Int.reduceToNat, Int.reducePow, dite_eq_ite, Value.oneCell', Nat.reduceBEq, Nat.reduceDiv, bnS, bnN, bnT, spB, vl_dg, W32_dg, unW_wds, wV, sdf, wds_nil, RGd, RGdf, RGcf, hz, e1, e2, ho]
  refine ⟨by omega, by omega, hc, sx, sy, fun h => ?_, fun h => ?_⟩
  · obtain rfl : o = false := by simpa using h
    refine .inl ?_
    simp only [↓Br_t, ↓Br_f, ↓Brg_t, ↓Brg_f, bnC, Kseq_app, Nat.reduceMul, Nat.reduceLeDiff, Nat.reduceEqDiff, Nat.reduceLT, Nat.reduceAdd, Nat.reduceSub, ↓reduceIte, implies_true, reduceCtorEq, ne_eq, ↓shr_eq, IntKind.bits, Int.reduceToNat, Int.reducePow, dite_eq_ite, Value.oneCell', Nat.reduceBEq, Nat.reduceDiv, bnS, bnN, bnT, spB, vl_dg, W32_dg, unW_wds, wV, sdf, wds_nil, crvPt, crvCo]
  · obtain rfl : o = true := by simpa using h
    refine .inl ?_
    simp only [↓Br_t, ↓Br_f, ↓Brg_t, ↓Brg_f, bnC, Kseq_app, Nat.reduceMul, Nat.reduceLeDiff, Nat.reduceEqDiff, Nat.reduceLT, Nat.reduceAdd, Nat.reduceSub, ↓reduceIte, implies_true, reduceCtorEq, ne_eq, ↓shr_eq, IntKind.bits, Int.reduceToNat, Int.reducePow, dite_eq_ite, Value.oneCell', Nat.reduceBEq, Nat.reduceDiv, bnS, bnN, bnT, spB, vl_dg, W32_dg, unW_wds, wV, sdf, wds_nil, crvPt, crvCo]
theorem cdec11_no (J : Inv) (c : Int) (x y : List UInt8) (h : crvS c = 0 ∨ (x.length : Int) ≠ crvS c ∨ (y.length : Int) ≠ crvS c) : Fn Tryz.prog J 20 false [.val (.int .i64 c), .by x, .by y] (.tu [crvPt false x y, .i (crvCo false)]) := by
  refine Fn.of_plain (nx := 10) (post := []) ?_ (by have := crvPt_cl false x y; simp [V.cl, clL, V.i, this])
  refine fnH_introC Tryz.func20 rfl (by kernel_rfl) (Nat.le_of_ble_eq_true (by kernel_rfl)) (by kernel_rfl) (by kernel_rfl) (RGd_ok J) rfl ?_
  unfold Tryz.f20
  have hall : (crvS c == 0 || !((x.length : Int) == crvS c) || !((y.length : Int) == crvS c)) = true := by
    rcases h with h | h | h
    · rw [h]; rfl
    · rw [beq_eq_false_iff_ne.2 h]; simp
    · rw [beq_eq_false_iff_ne.2 h]; simp
  simp only [↓Br_t, ↓Br_f, ↓Brg_t, ↓Brg_f, bnC, Kseq_app, Nat.reduceMul, Nat.reduceLeDiff, Nat.reduceEqDiff, Nat.reduceLT, Nat.reduceAdd, Nat.reduceSub, ↓reduceIte, implies_true, reduceCtorEq, ne_eq, ↓shr_eq, IntKind.bits, Int.reduceToNat, Int.reducePow, dite_eq_ite, Value.oneCell', Nat.reduceBEq, Nat.reduceDiv, bnS, bnN, bnT, spB, vl_dg, W32_dg, unW_wds, wV, sdf, wds_nil, RGd, RGdf, RGcf, hall]
  refine .inl ?_
  simp only [↓Br_t, ↓Br_f, ↓Brg_t, ↓Brg_f, bnC, Kseq_app, Nat.reduceMul, Nat.reduceLeDiff, Nat.reduceEqDiff, Nat.reduceLT, Nat.reduceAdd, Nat.reduceSub, ↓reduceIte, implies_true, reduceCtorEq, ne_eq, ↓shr_eq, IntKind.bits, Int.reduceToNat, Int.reducePow, dite_eq_ite, Value.oneCell', Nat.reduceBEq, Nat.reduceDiv, bnS, bnN, bnT, spB, vl_dg, W32_dg, unW_wds, wV, sdf, wds_nil, crvPt, crvCo]
theorem crvOk_S (c : Int) (hc : c = 1 ∨ c = 2) (x y : List UInt8) : crvOk c x y = gOk (crvP c) (crvB c) (crvS c).toNat x y := by
  rcases hc with rfl | rfl <;> rfl
theorem cdecode11_fn (J : Inv) (c : Int) (x y : List UInt8) : Fn Tryz.prog J 20 false [.val (.int .i64 c), .by x, .by y] (.tu [crvPt (crvOk c x y) x y, .i (crvCo (crvOk c x y))]) := by
  by_cases hc : c = 1 ∨ c = 2
  · have hS : crvS c = ((crvS c).toNat : Int) := by rcases hc with rfl | rfl <;> rfl
    rw [crvOk_S c hc]
    unfold gOk
    by_cases h1 : x.length = (crvS c).toNat
    · by_cases h2 : y.length = (crvS c).toNat
      · rw [decide_eq_true h1, decide_eq_true h2, Bool.true_and, Bool.true_and]
        exact cdec11_ok J c hc x y (by omega) (by omega) _ rfl
      · rw [decide_eq_false h2, Bool.false_and, Bool.and_false]
        exact cdec11_no J c x y (.inr (.inr (by omega)))
    · rw [decide_eq_false h1, Bool.false_and]
      exact cdec11_no J c x y (.inr (.inl (by omega)))
  · have h1 : ¬ c = 1 := fun h => hc (.inl h)
    have h2 : ¬ c = 2 := fun h => hc (.inr h)
    have ho : crvOk c x y = false := by unfold crvOk; rw [if_neg h1, if_neg h2]
    rw [ho]
    exact cdec11_no J c x y (.inl (by unfold crvS; rw [if_neg h1, if_neg h2]))
set_option linter.unusedSectionVars false
theorem number14_fn (J : Inv) (n e : List UInt8) (hn : n.length ≤ 67108864) (he : e.length ≤ 67108864) : Fn Tryz.prog J 19 false [.by n, .by e] (.bb (numOk n e)) := by
  refine fn_intro Tryz.func19 rfl (by kernel_rfl) (Nat.le_of_ble_eq_true (by kernel_rfl)) (by kernel_rfl) (by kernel_rfl) rfl (S0_ok J) ?_
  unfold Tryz.f19
  simp only [↓Br_t, ↓Br_f, ↓Brg_t, ↓Brg_f, bnC, Kseq_app, Nat.reduceMul, Nat.reduceLeDiff, Nat.reduceEqDiff, Nat.reduceLT, Nat.reduceAdd, Nat.reduceSub, ↓reduceIte, implies_true, reduceCtorEq, ne_eq, ↓shr_eq, IntKind.bits, Int.reduceToNat, Int.reducePow, dite_eq_ite, Value.oneCell', Nat.reduceBEq, Nat.reduceDiv, bnS, bnN, bnT, spB, vl_dg, W32_dg, unW_wds, wV, sdf, wds_nil, S0, S0f]
  have b0 := byteAt_lo n ((n.length : Int) - 1).toNat
  have b1 := byteAt_lo e ((e.length : Int) - 1).toNat
  have hN : ∀ z : Bool, nkA n = true ∨ (nkA n = false ∧ nkB n = true) ∨ (nkA n = false ∧ nkB n = false ∧ nkC e = true) ∨ (nkA n = false ∧ nkB n = false ∧ nkC e = false ∧ nkD e = z) → numOk n e = if nkA n || nkB n || nkC e then false else z := fun z h => by
    unfold numOk
    rcases h with h | ⟨h, h2⟩ | ⟨h, h2, h3⟩ | ⟨h, h2, h3, h4⟩ <;> simp [*]
  repeat (with_reducible refine And.intro ?_ ?_; · first | omega | (intro h; simp only [Bool.or_eq_false_iff, beq_eq_false_iff_ne, ne_eq, decide_eq_false_iff_not] at h; first | omega | (constructor <;> omega)))
  refine ⟨fun h => ?_, fun h => ?_⟩
  · have ha : nkA n = true := h
    unfold numOk
    rw [ha]; rfl
  · have ha : nkA n = false := h
    clear hN
    refine ⟨fun _ => by omega, fun h2 => by rw [beq_iff_eq] at h2; omega, fun h2 => ?_, fun h2 => ?_⟩
    · have hb : nkB n = true := h2
      unfold numOk
      rw [hb]; simp
    · have hb : nkB n = false := h2
      repeat (with_reducible refine And.intro ?_ ?_; · first | omega | (intro h; simp only [Bool.or_eq_false_iff, beq_eq_false_iff_ne, ne_eq, decide_eq_false_iff_not] at h; first | omega | (constructor <;> omega)))
      refine ⟨fun h3 => ?_, fun h3 => ?_⟩
      · have hc : nkC e = true := h3
        unfold numOk
        rw [hc]; simp
      · have hc : nkC e = false := h3
        have he0 : 0 < e.length := by
          unfold nkC at hc
          simp only [Bool.or_eq_false_iff, beq_eq_false_iff_ne, ne_eq, decide_eq_false_iff_not] at hc
          omega
        refine ⟨fun _ => by omega, fun _ => by omega, ?_⟩
        unfold numOk
        rw [ha, hb, hc]; rfl
theorem unB4 (a b c d : List UInt8) : ((a.length : Int) + b.length + c.length + d.length == 0) = unB [a, b, c, d] := by
  unfold unB
  rw [Bool.eq_iff_iff, beq_iff_eq, decide_eq_true_eq]
  simp only [lnB, List.map_cons, List.map_nil, List.sum_cons, List.sum_nil]
  omega
theorem unB3 (a b c : List UInt8) : ((a.length : Int) + b.length + c.length == 0) = unB [a, b, c] := by
  unfold unB
  rw [Bool.eq_iff_iff, beq_iff_eq, decide_eq_true_eq]
  simp only [lnB, List.map_cons, List.map_nil, List.sum_cons, List.sum_nil]
  omega
theorem unB4n (a b c d : List UInt8) : decide (0 < (a.length : Int) + b.length + c.length + d.length) = !unB [a, b, c, d] := by
  unfold unB
  rw [Bool.eq_iff_iff, decide_eq_true_eq, Bool.not_eq_true', decide_eq_false_iff_not]
  simp only [lnB, List.map_cons, List.map_nil, List.sum_cons, List.sum_nil]
  omega
def RKaf : FuncId → List V → Option (List Prop × Bool × V) := fun f args =>
  if f = 19 then match args with
    | [.by n, .by e] => some ([n.length ≤ 67108864, e.length ≤ 67108864], false, .bb (numOk n e))
    | _ => none
  else if f = 20 then match args with
    | [.val (.int .i64 c), .by x, .by y'] => some ([], false, .tu [crvPt (crvOk c x y') x y', .i (crvCo (crvOk c x y'))])
    | _ => none
  else if f = 21 then match args with
    | [.by b] => some ([], false, .tu [edPt13 b, .i (edCo b)])
    | _ => none
  else none
def RKa (J : Inv) : Sig := ⟨J, sdf, RKaf, noH, 0⟩
theorem RKa_ok (J : Inv) : SigOk Tryz.prog (RKa J) := by
  refine .plain fun f args l fr r h hl => ?_
  change RKaf f args = some (l, fr, r) at h
  unfold RKaf at h
  split at h
  · rename_i hf; subst hf
    split at h
    · rename_i n e
      obtain ⟨rfl, rfl, rfl⟩ := jsome_tri h
      obtain ⟨c0, c1, -⟩ := hl.un
      have hp := number14_fn J n e c0 c1
      exact hp
    · exact absurd h (by simp)
  · split at h
    · rename_i hf; subst hf
      split at h
      · rename_i c x y'
        obtain ⟨rfl, rfl, rfl⟩ := jsome_tri h
        have hp := cdecode11_fn J c x y'
        exact hp
      · exact absurd h (by simp)
    · split at h
      · rename_i hf; subst hf
        split at h
        · rename_i b
          obtain ⟨rfl, rfl, rfl⟩ := jsome_tri h
          have hp := decode13_fn J b
          exact hp
        · exact absurd h (by simp)
      · exact absurd h (by simp)
section
variable (J : Inv) (crv : Int) (s n e x y : List UInt8) (hs : s.length ≤ 16777216) (hn : n.length ≤ 16777216) (he : e.length ≤ 16777216) (hx : x.length ≤ 16777216) (hy : y.length ≤ 16777216)
include hs hn he hx hy
theorem right1_fn : Fn Tryz.prog J 12 false [keyV 1 crv s n e x y] (.bb (decide (crv = 0) && (decide (32 ≤ s.length) && (decide (s.length ≤ 4096) && unB [n, e, x, y])))) := by
  refine fn_intro Tryz.func12 rfl (by kernel_rfl) (Nat.le_of_ble_eq_true (by kernel_rfl)) (by kernel_rfl) (by kernel_rfl) rfl (RKa_ok J) ?_
  unfold Tryz.f12
  simp only [↓Br_t, ↓Br_f, ↓Brg_t, ↓Brg_f, bnC, Kseq_app, Nat.reduceMul, Nat.reduceLeDiff, Nat.reduceEqDiff, Nat.reduceLT, Nat.reduceAdd, Nat.reduceSub, ↓reduceIte, implies_true, reduceCtorEq, ne_eq, ↓shr_eq, IntKind.bits, Int.reduceToNat, Int.reducePow, dite_eq_ite, Value.oneCell', Nat.reduceBEq, Nat.reduceDiv, bnS, bnN, bnT, spB, vl_dg, W32_dg, unW_wds, wV, sdf, wds_nil, RKa, RKaf, keyV, k_eq, unB4]
  refine ⟨fun _ => by constructor <;> omega, fun _ => by constructor <;> omega, fun _ => by constructor <;> omega, ?_⟩
  rw [← Bool.beq_eq_decide_eq, show decide (32 ≤ (s.length : Int)) = decide (32 ≤ s.length) from decide_eq_decide.2 (by omega), show decide ((s.length : Int) ≤ 4096) = decide (s.length ≤ 4096) from decide_eq_decide.2 (by omega)]
  simp only [Bool.and_assoc]
theorem right2_fn : Fn Tryz.prog J 12 false [keyV 2 crv s n e x y] (.bb (decide (crv = 0) && (unB [s, x, y] && decide (rsC n e = 0)))) := by
  refine fn_intro Tryz.func12 rfl (by kernel_rfl) (Nat.le_of_ble_eq_true (by kernel_rfl)) (by kernel_rfl) (by kernel_rfl) rfl (RKa_ok J) ?_
  unfold Tryz.f12
  simp only [↓Br_t, ↓Br_f, ↓Brg_t, ↓Brg_f, bnC, Kseq_app, Nat.reduceMul, Nat.reduceLeDiff, Nat.reduceEqDiff, Nat.reduceLT, Nat.reduceAdd, Nat.reduceSub, ↓reduceIte, implies_true, reduceCtorEq, ne_eq, ↓shr_eq, IntKind.bits, Int.reduceToNat, Int.reducePow, dite_eq_ite, Value.oneCell', Nat.reduceBEq, Nat.reduceDiv, bnS, bnN, bnT, spB, vl_dg, W32_dg, unW_wds, wV, sdf, wds_nil, RKa, RKaf, keyV, k_eq, unB3]
  refine ⟨fun _ => by constructor <;> omega, fun _ => by constructor <;> omega, fun _ => by omega, fun _ => by omega, ?_⟩
  rw [← Bool.beq_eq_decide_eq, numOk_eq]
  simp only [Bool.and_assoc]
theorem right3_fn (o : Bool) (ho : crvOk crv x y = o) : Fn Tryz.prog J 12 false [keyV 3 crv s n e x y] (.bb (o && unB [s, n, e])) := by
  refine fn_intro Tryz.func12 rfl (by kernel_rfl) (Nat.le_of_ble_eq_true (by kernel_rfl)) (by kernel_rfl) (by kernel_rfl) rfl (RKa_ok J) ?_
  unfold Tryz.f12
  cases o
  · simp only [↓Br_t, ↓Br_f, ↓Brg_t, ↓Brg_f, bnC, Kseq_app, Nat.reduceMul, Nat.reduceLeDiff, Nat.reduceEqDiff, Nat.reduceLT, Nat.reduceAdd, Nat.reduceSub, ↓reduceIte, implies_true, reduceCtorEq, ne_eq, ↓shr_eq, IntKind.bits, Int.reduceToNat, Int.reducePow, dite_eq_ite, Value.oneCell', Nat.reduceBEq, Nat.reduceDiv, bnS, bnN, bnT, spB, vl_dg, W32_dg, unW_wds, wV, sdf, wds_nil, RKa, RKaf, keyV, k_eq, unB3, ho, crvPt, crvCo]
    exact ⟨fun h => h.elim, fun h => h.elim⟩
  · simp only [↓Br_t, ↓Br_f, ↓Brg_t, ↓Brg_f, bnC, Kseq_app, Nat.reduceMul, Nat.reduceLeDiff, Nat.reduceEqDiff, Nat.reduceLT, Nat.reduceAdd, Nat.reduceSub, ↓reduceIte, implies_true, reduceCtorEq, ne_eq, ↓shr_eq, IntKind.bits, Int.reduceToNat, Int.reducePow, dite_eq_ite, Value.oneCell', Nat.reduceBEq, Nat.reduceDiv, bnS, bnN, bnT, spB, vl_dg, W32_dg, unW_wds, wV, sdf, wds_nil, RKa, RKaf, keyV, k_eq, unB3, ho, crvPt, crvCo]
    exact ⟨fun _ => by constructor <;> omega, fun _ => by constructor <;> omega⟩
theorem right4_fn (o : Bool) (ho : edOk x = o) : Fn Tryz.prog J 12 false [keyV 4 crv s n e x y] (.bb (decide (crv = 3) && (unB [s, n, e, y] && o))) := by
  refine fn_intro Tryz.func12 rfl (by kernel_rfl) (Nat.le_of_ble_eq_true (by kernel_rfl)) (by kernel_rfl) (by kernel_rfl) rfl (RKa_ok J) ?_
  unfold Tryz.f12
  cases o
  · simp only [↓Br_t, ↓Br_f, ↓Brg_t, ↓Brg_f, bnC, Kseq_app, Nat.reduceMul, Nat.reduceLeDiff, Nat.reduceEqDiff, Nat.reduceLT, Nat.reduceAdd, Nat.reduceSub, ↓reduceIte, implies_true, reduceCtorEq, ne_eq, ↓shr_eq, IntKind.bits, Int.reduceToNat, Int.reducePow, dite_eq_ite, Value.oneCell', Nat.reduceBEq, Nat.reduceDiv, bnS, bnN, bnT, spB, vl_dg, W32_dg, unW_wds, wV, sdf, wds_nil, RKa, RKaf, keyV, k_eq, unB4n, ho, edPt13, edCo]
    exact ⟨fun _ => by constructor <;> omega, fun _ => by constructor <;> omega, fun _ => by constructor <;> omega, fun _ => trivial, fun _ => trivial⟩
  · simp only [↓Br_t, ↓Br_f, ↓Brg_t, ↓Brg_f, bnC, Kseq_app, Nat.reduceMul, Nat.reduceLeDiff, Nat.reduceEqDiff, Nat.reduceLT, Nat.reduceAdd, Nat.reduceSub, ↓reduceIte, implies_true, reduceCtorEq, ne_eq, ↓shr_eq, IntKind.bits, Int.reduceToNat, Int.reducePow, dite_eq_ite, Value.oneCell', Nat.reduceBEq, Nat.reduceDiv, bnS, bnN, bnT, spB, vl_dg, W32_dg, unW_wds, wV, sdf, wds_nil, RKa, RKaf, keyV, k_eq, unB4n, ho, edPt13, edCo]
    refine ⟨fun _ => by constructor <;> omega, fun _ => by constructor <;> omega, fun _ => by constructor <;> omega, ?_⟩
    rw [← Bool.beq_eq_decide_eq]
    generalize (crv == 3) = a
    generalize unB [s, n, e, y] = u
    cases a <;> cases u <;> simp [Br]
end
theorem right0_fn (J : Inv) (kty crv : Int) (s n e x y : List UInt8) (h1 : kty ≠ 1) (h2 : kty ≠ 2) (h3 : kty ≠ 3) (h4 : kty ≠ 4) : Fn Tryz.prog J 12 false [keyV kty crv s n e x y] (.bb false) := by
  have e1 : (kty == 1) = false := by rw [beq_eq_false_iff_ne]; exact h1
  have e2 : (kty == 2) = false := by rw [beq_eq_false_iff_ne]; exact h2
  have e3 : (kty == 3) = false := by rw [beq_eq_false_iff_ne]; exact h3
  have e4 : (kty == 4) = false := by rw [beq_eq_false_iff_ne]; exact h4
  refine fn_intro Tryz.func12 rfl (by kernel_rfl) (Nat.le_of_ble_eq_true (by kernel_rfl)) (by kernel_rfl) (by kernel_rfl) rfl (RKa_ok J) ?_
  unfold Tryz.f12
  simp only [↓Br_t, ↓Br_f, ↓Brg_t, ↓Brg_f, bnC, Kseq_app, Nat.reduceMul, Nat.reduceLeDiff, Nat.reduceEqDiff, Nat.reduceLT, Nat.reduceAdd, Nat.reduceSub, ↓reduceIte, implies_true, reduceCtorEq, ne_eq, ↓shr_eq, IntKind.bits, Int.reduceToNat, Int.reducePow, dite_eq_ite, Value.oneCell', Nat.reduceBEq, Nat.reduceDiv, bnS, bnN, bnT, spB, vl_dg, W32_dg, unW_wds, wV, sdf, wds_nil, RKa, RKaf, keyV, k_eq, e1, e2, e3, e4]
theorem rRight_fn (J : Inv) (kty crv : Int) (s n e x y : List UInt8) (hs : s.length ≤ 16777216) (hn : n.length ≤ 16777216) (he : e.length ≤ 16777216) (hx : x.length ≤ 16777216) (hy : y.length ≤ 16777216) : Fn Tryz.prog J 12 false [keyV kty crv s n e x y] (.bb (goodK kty crv s n e x y)) := by
  unfold goodK
  by_cases h1 : kty = 1
  · rw [if_pos h1]; subst h1; exact right1_fn J crv s n e x y hs hn he hx hy
  rw [if_neg h1]
  by_cases h2 : kty = 2
  · rw [if_pos h2]; subst h2; exact right2_fn J crv s n e x y hs hn he hx hy
  rw [if_neg h2]
  by_cases h3 : kty = 3
  · rw [if_pos h3]; subst h3; exact right3_fn J crv s n e x y hs hn he hx hy _ rfl
  rw [if_neg h3]
  by_cases h4 : kty = 4
  · rw [if_pos h4]; subst h4; exact right4_fn J crv s n e x y hs hn he hx hy _ rfl
  rw [if_neg h4]
  exact right0_fn J kty crv s n e x y h1 h2 h3 h4
def RKb (J : Inv) : Sig := ⟨J, sdf, fun f args => if f = 12 then match args with
  | [.st [.val (.int .i64 kty), .val (.int .i64 crv), .by s, .by n, .by e, .by x, .by y]] => some ([s.length ≤ 16777216, n.length ≤ 16777216, e.length ≤ 16777216, x.length ≤ 16777216, y.length ≤ 16777216], false, .bb (goodK kty crv s n e x y))
  | _ => none
  else none, noH, 0⟩
theorem RKb_ok (J : Inv) : SigOk Tryz.prog (RKb J) := by
  refine .plain fun f args l fr r h hl => ?_
  split at h
  · rename_i hf; subst hf
    split at h
    · rename_i kty crv s n e x y
      obtain ⟨rfl, rfl, rfl⟩ := jsome_tri h
      exact rRight_fn J kty crv s n e x y (hl _ (by simp)) (hl _ (by simp)) (hl _ (by simp)) (hl _ (by simp)) (hl _ (by simp))
    · exact absurd h (by simp)
  · exact absurd h (by simp)
theorem rcheck_fn (J : Inv) (kty crv : Int) (s n e x y : List UInt8) (hs : s.length ≤ 16777216) (hn : n.length ≤ 16777216) (he : e.length ≤ 16777216) (hx : x.length ≤ 16777216) (hy : y.length ≤ 16777216) : Fn Tryz.prog J 6 false [keyV kty crv s n e x y] (.i (chkC (goodK kty crv s n e x y))) := by
  refine fn_intro Tryz.func6 rfl (by kernel_rfl) (Nat.le_of_ble_eq_true (by kernel_rfl)) (by kernel_rfl) (by kernel_rfl) rfl (RKb_ok J) ?_
  unfold Tryz.f6
  simp only [↓Br_t, ↓Br_f, ↓Brg_t, ↓Brg_f, bnC, Kseq_app, Nat.reduceMul, Nat.reduceLeDiff, Nat.reduceEqDiff, Nat.reduceLT, Nat.reduceAdd, Nat.reduceSub, ↓reduceIte, implies_true, reduceCtorEq, ne_eq, ↓shr_eq, IntKind.bits, Int.reduceToNat, Int.reducePow, dite_eq_ite, Value.oneCell', Nat.reduceBEq, Nat.reduceDiv, bnS, bnN, bnT, spB, vl_dg, W32_dg, unW_wds, wV, sdf, wds_nil, RKb, keyV]
  exact ⟨hs, hn, he, hx, hy, fun h => (if_pos h).symm, fun h => (if_neg (by rw [h]; simp)).symm⟩
end Go.Proofs.YtmpklnhmempmgaaGreatDoor
