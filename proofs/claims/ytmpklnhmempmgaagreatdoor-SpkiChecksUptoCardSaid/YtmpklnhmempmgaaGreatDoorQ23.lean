/- Numbers modulo another one: the walks of the program's sums, products, powers. -/
import Derived.Test.YtmpklnhmempmgaaGreatDoorQ21
namespace Go.Proofs.YtmpklnhmempmgaaGreatDoor
open Go.RowKit
set_option linter.unusedSimpArgs false
set_option maxRecDepth 100000
theorem bl_words (n : Nat) : (bl n + 31) / 32 = (dg n).length := by
  rcases Nat.eq_zero_or_pos n with rfl | hp
  · rw [bl_zero, dg_zero]; rfl
  · have h0 : n ≠ 0 := by omega
    have h1 : (dg n).length ≠ 0 := fun e => h0 (dg_eq_nil.1 (List.length_eq_zero_iff.1 e))
    have h2 := dg_hi n
    have h3 := dg_lo h0
    rw [B_pow] at h2 h3
    have h4 := bl_le_iff.2 h2
    have h5 : ¬ bl n ≤ 32 * ((dg n).length - 1) := fun h => by have := bl_le_iff.1 h; omega
    omega
/-- Lists of numbers. -/
def unL : List V → List (List Nat)
  | [] => []
  | .sq _ _ L :: r => unW L :: unL r
  | _ :: r => [] :: unL r
def SGm0f : FuncId → List V → Option (List Prop × Bool × V) := fun f args =>
  if f = 23 then match args with
    | [.sq 1 da La] => some ([da = .val (.int .u32 0), La = wds (unW La), (unW La).length ≤ 67108864, W32 (unW La)], false, .i (bl (vl (unW La))))
    | _ => none
  else none
def SGm0 (J : Inv) : Sig := ⟨J, sdf, SGm0f, noH, 0⟩
theorem SGm0_ok (J : Inv) : SigOk Tryz.prog (SGm0 J) := by
  refine .plain fun f args l fr r h hl => ?_
  change SGm0f f args = some (l, fr, r) at h
  unfold SGm0f at h
  split at h
  · rename_i hf; subst hf
    split at h
    · rename_i da La
      obtain ⟨rfl, rfl, rfl⟩ := jsome_tri h
      obtain ⟨qda, qla, c0, c1, -⟩ := hl.un
      subst qda
      have hp := bits_fn J (unW La) c0 c1
      unfold wV at hp
      rw [← qla] at hp
      exact hp
    · exact absurd h (by simp)
  · exact absurd h (by simp)
theorem size_fn (J : Inv) (a : List Nat) (ha : a.length ≤ 33554432) (wa : W32 a) : Fn Tryz.prog J 130 false [wV a] (.i (dg (vl a)).length) := by
  refine fn_intro Tryz.func130 rfl (by kernel_rfl) (Nat.le_of_ble_eq_true (by kernel_rfl)) (by kernel_rfl) (by kernel_rfl) rfl (SGm0_ok J) ?_
  unfold Tryz.f130
  simp only [bnC, Kseq_app, Nat.reduceMul, Nat.reduceLeDiff, Nat.reduceEqDiff, Nat.reduceLT, Nat.reduceAdd, Nat.reduceSub, ↓reduceIte, implies_true, reduceCtorEq, ne_eq, ↓shr_eq, IntKind.bits, Int.reduceToNat, Int.reducePow, dite_eq_ite, Value.oneCell', Nat.reduceBEq, Nat.reduceDiv, bnS, bnN, bnT, spB, SGm0, SGm0f, sdf, wV, unW_wds]
  have h := bl_words (vl a)
  have h2 := trim_len a
  rw [trim_dg wa] at h2
  have h3 : bl (vl a) ≤ 32 * (dg (vl a)).length := by
    omega
  refine ⟨by omega, wa, by constructor <;> omega, by constructor <;> omega, by omega, ?_⟩
  omega
def SGm1f : FuncId → List V → Option (List Prop × Bool × V) := fun f args =>
  if f = 130 then match args with
    | [.sq 1 da La] => some ([da = .val (.int .u32 0), La = wds (unW La), (unW La).length ≤ 33554432, W32 (unW La)], false, .i (dg (vl (unW La))).length)
    | _ => none
  else if f = 23 then match args with
    | [.sq 1 da La] => some ([da = .val (.int .u32 0), La = wds (unW La), (unW La).length ≤ 67108864, W32 (unW La)], false, .i (bl (vl (unW La))))
    | _ => none
  else none
def SGm1 (J : Inv) : Sig := ⟨J, sdf, SGm1f, noH, 0⟩
theorem SGm1_ok (J : Inv) : SigOk Tryz.prog (SGm1 J) := by
  refine .plain fun f args l fr r h hl => ?_
  change SGm1f f args = some (l, fr, r) at h
  unfold SGm1f at h
  split at h
  · rename_i hf; subst hf
    split at h
    · rename_i da La
      obtain ⟨rfl, rfl, rfl⟩ := jsome_tri h
      obtain ⟨qda, qla, c0, c1, -⟩ := hl.un
      subst qda
      have hp := size_fn J (unW La) c0 c1
      unfold wV at hp
      rw [← qla] at hp
      exact hp
    · exact absurd h (by simp)
  · split at h
    · rename_i hf; subst hf
      split at h
      · rename_i da La
        obtain ⟨rfl, rfl, rfl⟩ := jsome_tri h
        obtain ⟨qda, qla, c0, c1, -⟩ := hl.un
        subst qda
        have hp := bits_fn J (unW La) c0 c1
        unfold wV at hp
        rw [← qla] at hp
        exact hp
      · exact absurd h (by simp)
    · exact absurd h (by simp)
/-- The numbers of a list are in order, the last one at least 2. -/
structure Mods (l : List (List Nat)) : Prop where
  ok : ∀ a ∈ l, a.length ≤ 33554432 ∧ W32 a ∧ (dg (vl a)).length ≤ 128
  n0 : l ≠ []
  top : 2 ≤ vl (l.getD (l.length - 1) [])
theorem wVs_get (l : List (List Nat)) (i : Nat) : (l.map wV).getD i (.sq 1 (.val (.int .u32 0)) []) = wV (l.getD i []) := by
  rw [List.getD_eq_getElem?_getD, List.getElem?_map, List.getD_eq_getElem?_getD]
  cases l[i]? <;> rfl
theorem wrong_fn (J : Inv) (l : List (List Nat)) (hl : Mods l) (hn : l.length ≤ 1000) : Fn Tryz.prog J 117 false [.sq 1 (wV []) (l.map wV)] (.i 0) := by
  refine fn_intro Tryz.func117 rfl (by kernel_rfl) (Nat.le_of_ble_eq_true (by kernel_rfl)) (by kernel_rfl) (by kernel_rfl) rfl (SGm1_ok J) ?_
  unfold Tryz.f117
  simp only [bnC, Kseq_app, Nat.reduceMul, Nat.reduceLeDiff, Nat.reduceEqDiff, Nat.reduceLT, Nat.reduceAdd, Nat.reduceSub, ↓reduceIte, implies_true, reduceCtorEq, ne_eq, ↓shr_eq, IntKind.bits, Int.reduceToNat, Int.reducePow, dite_eq_ite, Value.oneCell', Nat.reduceBEq, Nat.reduceDiv, bnS, bnN, bnT, spB, SGm1, SGm1f, sdf, wV, unW_wds]
  refine LoopC.intro (α := Nat) (fun k => k ≤ l.length) (fun k => ⟨[(0, .sq 1 (wV []) (l.map wV)), (5, .sq 1 (wV []) (l.map wV)), (6, .i l.length), (7, .i k)], [], 0⟩) (fun k => l.length - k) 0 (Nat.zero_le _) ?_ ?_
  · simp only [bnC, Kseq_app, Nat.reduceMul, Nat.reduceLeDiff, Nat.reduceEqDiff, Nat.reduceLT, Nat.reduceAdd, Nat.reduceSub, ↓reduceIte, implies_true, reduceCtorEq, ne_eq, ↓shr_eq, IntKind.bits, Int.reduceToNat, Int.reducePow, dite_eq_ite, Value.oneCell', Nat.reduceBEq, Nat.reduceDiv, bnS, bnN, bnT, spB, wV, wds_nil]
    trivial
  · intro k hk
    simp only [bnC, Kseq_app, Nat.reduceMul, Nat.reduceLeDiff, Nat.reduceEqDiff, Nat.reduceLT, Nat.reduceAdd, Nat.reduceSub, ↓reduceIte, implies_true, reduceCtorEq, ne_eq, ↓shr_eq, IntKind.bits, Int.reduceToNat, Int.reducePow, dite_eq_ite, Value.oneCell', Nat.reduceBEq, Nat.reduceDiv, bnS, bnN, bnT, spB, SGm1, SGm1f, sdf, wV, unW_wds, wds_nil, wVs_get]
    refine ⟨fun hb => ?_, fun hb => ?_⟩
    · have hk2 : k < l.length := by simpa using hb
      have hm : l.getD k [] ∈ l := by
        rw [List.getD_eq_getElem?_getD, List.getElem?_eq_getElem hk2]
        exact List.getElem_mem hk2
      obtain ⟨q1, q2, q3⟩ := hl.ok _ hm
      refine ⟨by omega, by omega, q1, q2, fun h => absurd h (by rw [decide_eq_true_eq]; omega), fun _ => ⟨by constructor <;> omega, Again.intro (k + 1) hk2 (by show l.length - (k + 1) < l.length - k; omega) ?_⟩⟩
      simp only [bnC, Kseq_app, Nat.reduceMul, Nat.reduceLeDiff, Nat.reduceEqDiff, Nat.reduceLT, Nat.reduceAdd, Nat.reduceSub, ↓reduceIte, implies_true, reduceCtorEq, ne_eq, ↓shr_eq, IntKind.bits, Int.reduceToNat, Int.reducePow, dite_eq_ite, Value.oneCell', Nat.reduceBEq, Nat.reduceDiv, bnS, bnN, bnT, spB, wV, wds_nil]
      omega
    · have h0 : l.length ≠ 0 := fun e => hl.n0 (List.length_eq_zero_iff.1 e)
      rw [show ((l.length : Int) - 1).toNat = l.length - 1 by omega]
      have hm : l.getD (l.length - 1) [] ∈ l := by
        rw [List.getD_eq_getElem?_getD, List.getElem?_eq_getElem (by omega)]
        exact List.getElem_mem _
      obtain ⟨q1, q2, q3⟩ := hl.ok _ hm
      have h2 := hl.top
      have h3 : ¬ bl (vl (l.getD (l.length - 1) [])) ≤ 1 := fun h => by have := bl_le_iff.1 h; omega
      refine ⟨by constructor <;> omega, by omega, by omega, by omega, q2, fun h => absurd h (by rw [decide_eq_true_eq]; omega), fun _ => trivial⟩
def SGm2f : FuncId → List V → Option (List Prop × Bool × V) := fun f args =>
  if f = 131 then match args with
    | [.sq 1 da La, .sq 1 dd Ld] => some ([da = .val (.int .u32 0), La = wds (unW La), dd = .val (.int .u32 0), Ld = wds (unW Ld), (unW La).length ≤ 33554432, (unW Ld).length ≤ 33554432, W32 (unW La), W32 (unW Ld), vl (unW Ld) ≠ 0], false, .tu [wV (dg (vl (unW La) / vl (unW Ld))), wV (dg (vl (unW La) % vl (unW Ld))), .i 0])
    | _ => none
  else if f = 75 then match args with
    | [.sq 1 da La, .sq 1 db Lb] => some ([da = .val (.int .u32 0), La = wds (unW La), db = .val (.int .u32 0), Lb = wds (unW Lb), (unW La).length ≤ 67108864, (unW Lb).length ≤ 67108864, W32 (unW La), W32 (unW Lb)], false, wV (dg (vl (unW La) + vl (unW Lb))))
    | _ => none
  else if f = 132 then match args with
    | [.sq 1 da La, .sq 1 db Lb] => some ([da = .val (.int .u32 0), La = wds (unW La), db = .val (.int .u32 0), Lb = wds (unW Lb), (unW La).length ≤ 67108864, (unW Lb).length ≤ 67108864, W32 (unW La), W32 (unW Lb)], false, .tu [wV (dg (vl (unW La) - vl (unW Lb))), .bb (decide (vl (unW Lb) ≤ vl (unW La)))])
    | _ => none
  else if f = 119 then match args with
    | [.sq 1 da La, .sq 1 db Lb] => some ([da = .val (.int .u32 0), La = wds (unW La), db = .val (.int .u32 0), Lb = wds (unW Lb), (unW La).length ≤ 67108864, (unW Lb).length ≤ 67108864, W32 (unW La), W32 (unW Lb)], false, wV (dg (vl (unW La) * vl (unW Lb))))
    | _ => none
  else if f = 31 then match args with
    | [.sq 1 da La, .sq 1 db Lb] => some ([da = .val (.int .u32 0), La = wds (unW La), db = .val (.int .u32 0), Lb = wds (unW Lb), (unW La).length ≤ 1073741824, (unW Lb).length ≤ 1073741824, W32 (unW La), W32 (unW Lb)], false, .i (cmp3 (vl (unW La)) (vl (unW Lb))))
    | _ => none
  else if f = 77 then match args with
    | [.sq 1 da La, .val (.int .i64 i)] => some ([da = .val (.int .u32 0), La = wds (unW La), I64 i, W32 (unW La)], false, .bb (decide (0 ≤ i) && tb (vl (unW La)) i.toNat))
    | _ => none
  else if f = 74 then match args with
    | [.sq 1 da La, .val (.int .i64 k)] => some ([da = .val (.int .u32 0), La = wds (unW La), 0 ≤ k, k < 32, (unW La).length ≤ 67108864, W32 (unW La)], false, wV (dg (vl (unW La) / 2 ^ k.toNat)))
    | _ => none
  else SGm1f f args
def SGm2 (J : Inv) : Sig := ⟨J, sdf, SGm2f, noH, 0⟩
theorem SGm2_ok (J : Inv) : SigOk Tryz.prog (SGm2 J) := by
  refine .plain fun f args l fr r h hl => ?_
  change SGm2f f args = some (l, fr, r) at h
  unfold SGm2f at h
  split at h
  · rename_i hf; subst hf
    split at h
    · rename_i da La dd Ld
      obtain ⟨rfl, rfl, rfl⟩ := jsome_tri h
      obtain ⟨qda, qla, qdd, qld, c0, c1, c2, c3, c4, -⟩ := hl.un
      subst qda qdd
      have hp := divmod_fn J (unW La) (unW Ld) c0 c1 c2 c3 c4
      unfold wV at hp
      rw [← qla, ← qld] at hp
      exact hp
    · exact absurd h (by simp)
  · split at h
    · rename_i hf; subst hf
      split at h
      · rename_i da La db Lb
        obtain ⟨rfl, rfl, rfl⟩ := jsome_tri h
        obtain ⟨qda, qla, qdb, qlb, c0, c1, c2, c3, -⟩ := hl.un
        subst qda qdb
        have hp := add_fn J (unW La) (unW Lb) c0 c1 c2 c3
        unfold wV at hp
        rw [← qla, ← qlb] at hp
        exact hp
      · exact absurd h (by simp)
    · split at h
      · rename_i hf; subst hf
        split at h
        · rename_i da La db Lb
          obtain ⟨rfl, rfl, rfl⟩ := jsome_tri h
          obtain ⟨qda, qla, qdb, qlb, c0, c1, c2, c3, -⟩ := hl.un
          subst qda qdb
          have hp := sub_fn J (unW La) (unW Lb) c0 c1 c2 c3
          unfold wV at hp
          rw [← qla, ← qlb] at hp
          exact hp
        · exact absurd h (by simp)
      · split at h
        · rename_i hf; subst hf
          split at h
          · rename_i da La db Lb
            obtain ⟨rfl, rfl, rfl⟩ := jsome_tri h
            obtain ⟨qda, qla, qdb, qlb, c0, c1, c2, c3, -⟩ := hl.un
            subst qda qdb
            have hp := mul_fn J (unW La) (unW Lb) c0 c1 c2 c3
            unfold wV at hp
            rw [← qla, ← qlb] at hp
            exact hp
          · exact absurd h (by simp)
        · split at h
          · rename_i hf; subst hf
            split at h
            · rename_i da La db Lb
              obtain ⟨rfl, rfl, rfl⟩ := jsome_tri h
              obtain ⟨qda, qla, qdb, qlb, c0, c1, c2, c3, -⟩ := hl.un
              subst qda qdb
              have hp := cmp_fn J (unW La) (unW Lb) c0 c1 c2 c3
              unfold wV at hp
              rw [← qla, ← qlb] at hp
              exact hp
            · exact absurd h (by simp)
          · split at h
            · rename_i hf; subst hf
              split at h
              · rename_i da La i
                obtain ⟨rfl, rfl, rfl⟩ := jsome_tri h
                obtain ⟨qda, qla, c0, c1, -⟩ := hl.un
                subst qda
                have hp := bit_fn J (unW La) i c0 c1
                unfold wV at hp
                rw [← qla] at hp
                exact hp
              · exact absurd h (by simp)
            · split at h
              · rename_i hf; subst hf
                split at h
                · rename_i da La k
                  obtain ⟨rfl, rfl, rfl⟩ := jsome_tri h
                  obtain ⟨qda, qla, c0, c1, c2, c3, -⟩ := hl.un
                  subst qda
                  have hp := (by have h := shr_fn J (unW La) k.toNat (by omega) c2 c3; rwa [Int.toNat_of_nonneg c0] at h)
                  unfold wV at hp
                  rw [← qla] at hp
                  exact hp
                · exact absurd h (by simp)
              · exact (SGm1_ok J ).1 f args l fr r h hl
theorem rest_fn (J : Inv) (a m : List Nat) (ha : a.length ≤ 33554432) (hm : m.length ≤ 33554432) (wa : W32 a) (wm : W32 m) (h0 : vl m ≠ 0) : Fn Tryz.prog J 118 false [wV a, wV m] (wV (dg (vl a % vl m))) := by
  refine fn_intro Tryz.func118 rfl (by kernel_rfl) (Nat.le_of_ble_eq_true (by kernel_rfl)) (by kernel_rfl) (by kernel_rfl) (wV_cl _) (SGm2_ok J) ?_
  unfold Tryz.f118
  simp only [bnC, Kseq_app, Nat.reduceMul, Nat.reduceLeDiff, Nat.reduceEqDiff, Nat.reduceLT, Nat.reduceAdd, Nat.reduceSub, ↓reduceIte, implies_true, reduceCtorEq, ne_eq, ↓shr_eq, IntKind.bits, Int.reduceToNat, Int.reducePow, dite_eq_ite, Value.oneCell', Nat.reduceBEq, Nat.reduceDiv, bnS, bnN, bnT, spB, SGm2, SGm2f, SGm1f, sdf, wV, unW_wds]
  exact ⟨ha, hm, wa, wm, h0⟩
/-- x - y modulo m, of numbers below m. -/
def subM (x y m : Nat) : Nat := (x + m - y) % m
theorem minus_fn (J : Inv) (a b m : List Nat) (ha : a.length ≤ 33554432) (hb : b.length ≤ 33554432) (hm : m.length ≤ 33554432) (wa : W32 a) (wb : W32 b) (wm : W32 m) (h1 : vl a < vl m) (h2 : vl b < vl m) : Fn Tryz.prog J 120 false [wV a, wV b, wV m] (wV (dg (subM (vl a) (vl b) (vl m)))) := by
  refine fn_intro Tryz.func120 rfl (by kernel_rfl) (Nat.le_of_ble_eq_true (by kernel_rfl)) (by kernel_rfl) (by kernel_rfl) (wV_cl _) (SGm2_ok J) ?_
  unfold Tryz.f120
  simp only [bnC, Kseq_app, Nat.reduceMul, Nat.reduceLeDiff, Nat.reduceEqDiff, Nat.reduceLT, Nat.reduceAdd, Nat.reduceSub, ↓reduceIte, implies_true, reduceCtorEq, ne_eq, ↓shr_eq, IntKind.bits, Int.reduceToNat, Int.reducePow, dite_eq_ite, Value.oneCell', Nat.reduceBEq, Nat.reduceDiv, bnS, bnN, bnT, spB, SGm2, SGm2f, SGm1f, sdf, wV, unW_wds]
  have hl := dg_len (Nat.lt_of_lt_of_le (show vl a + vl m < 2 * 4294967296 ^ m.length by have := vl_lt wm; omega) (Nat.le_trans (Nat.mul_le_mul_right _ (show 2 ≤ 4294967296 ^ 1 by omega)) (Nat.le_of_eq (by rw [← Nat.pow_add]))))
  refine ⟨by omega, by omega, wa, wb, fun h => ⟨by omega, by omega, wa, wm, by omega, by omega, W32_dg _, wb, ?_⟩, fun h => ?_⟩
  · have h3 : vl a < vl b := by simpa using h
    unfold subM
    rw [vl_dg, Nat.mod_eq_of_lt (by omega)]
  · have h3 : vl b ≤ vl a := by simpa using h
    unfold subM
    rw [show vl a + vl m - vl b = vl a - vl b + vl m by omega, Nat.add_mod_right, Nat.mod_eq_of_lt (by omega)]
def SGwf : FuncId → List V → Option (List Prop × Bool × V) := fun f args =>
  if f = 117 then match args with
    | [.sq 1 d L] => some ([d = .sq 1 (.val (.int .u32 0)) [], L = (unL L).map wV, Mods (unL L), (unL L).length ≤ 1000], false, .i 0)
    | _ => none
  else SGm2f f args
def SGw (J : Inv) : Sig := ⟨J, sdf, SGwf, noH, 0⟩
theorem SGw_ok (J : Inv) : SigOk Tryz.prog (SGw J) := by
  refine .plain fun f args l fr r h hl => ?_
  change SGwf f args = some (l, fr, r) at h
  unfold SGwf at h
  split at h
  · rename_i hf; subst hf
    split at h
    · obtain ⟨rfl, rfl, rfl⟩ := jsome_tri h
      rename_i d L
      have q1 : d = .sq 1 (.val (.int .u32 0)) [] := hl _ (by simp)
      have q2 : L = (unL L).map wV := hl _ (by simp)
      have hp := wrong_fn J (unL L) (hl _ (by simp)) (hl _ (by simp))
      rw [← q2] at hp
      subst q1
      exact hp
    · exact absurd h (by simp)
  · exact (SGm2_ok J).1 f args l fr r h hl
theorem Mods.get {l : List (List Nat)} (h : Mods l) {a : List Nat} (ha : a ∈ l) : a.length ≤ 33554432 ∧ W32 a ∧ (dg (vl a)).length ≤ 128 := h.ok a ha
def SGm3f : FuncId → List V → Option (List Prop × Bool × V) := fun f args =>
  if f = 118 then match args with
    | [.sq 1 da La, .sq 1 dm Lm] => some ([da = .val (.int .u32 0), La = wds (unW La), dm = .val (.int .u32 0), Lm = wds (unW Lm), (unW La).length ≤ 33554432, (unW Lm).length ≤ 33554432, W32 (unW La), W32 (unW Lm), vl (unW Lm) ≠ 0], false, wV (dg (vl (unW La) % vl (unW Lm))))
    | _ => none
  else if f = 120 then match args with
    | [.sq 1 da La, .sq 1 db Lb, .sq 1 dm Lm] => some ([da = .val (.int .u32 0), La = wds (unW La), db = .val (.int .u32 0), Lb = wds (unW Lb), dm = .val (.int .u32 0), Lm = wds (unW Lm), (unW La).length ≤ 33554432, (unW Lb).length ≤ 33554432, (unW Lm).length ≤ 33554432, W32 (unW La), W32 (unW Lb), W32 (unW Lm), vl (unW La) < vl (unW Lm), vl (unW Lb) < vl (unW Lm)], false, wV (dg (subM (vl (unW La)) (vl (unW Lb)) (vl (unW Lm)))))
    | _ => none
  else SGwf f args
def SGm3 (J : Inv) : Sig := ⟨J, sdf, SGm3f, noH, 0⟩
theorem SGm3_ok (J : Inv) : SigOk Tryz.prog (SGm3 J) := by
  refine .plain fun f args l fr r h hl => ?_
  change SGm3f f args = some (l, fr, r) at h
  unfold SGm3f at h
  split at h
  · rename_i hf; subst hf
    split at h
    · rename_i da La dm Lm
      obtain ⟨rfl, rfl, rfl⟩ := jsome_tri h
      obtain ⟨qda, qla, qdm, qlm, c0, c1, c2, c3, c4, -⟩ := hl.un
      subst qda qdm
      have hp := rest_fn J (unW La) (unW Lm) c0 c1 c2 c3 c4
      unfold wV at hp
      rw [← qla, ← qlm] at hp
      exact hp
    · exact absurd h (by simp)
  · split at h
    · rename_i hf; subst hf
      split at h
      · rename_i da La db Lb dm Lm
        obtain ⟨rfl, rfl, rfl⟩ := jsome_tri h
        obtain ⟨qda, qla, qdb, qlb, qdm, qlm, c0, c1, c2, c3, c4, c5, c6, c7, -⟩ := hl.un
        subst qda qdb qdm
        have hp := minus_fn J (unW La) (unW Lb) (unW Lm) c0 c1 c2 c3 c4 c5 c6 c7
        unfold wV at hp
        rw [← qla, ← qlb, ← qlm] at hp
        exact hp
      · exact absurd h (by simp)
    · exact (SGw_ok J ).1 f args l fr r h hl
theorem unW_lit : unW [V.val (.int .u32 1)] = [1] := rfl
theorem dg_sum_len {x y k : Nat} (hx : (dg x).length ≤ k) (hy : (dg y).length ≤ k) : (dg (x + y)).length ≤ k + 1 := by
  have h1 := dg_hi x
  have h2 := dg_hi y
  have h3 : 4294967296 ^ (dg x).length ≤ 4294967296 ^ k := Nat.pow_le_pow_right (by omega) hx
  have h4 : 4294967296 ^ (dg y).length ≤ 4294967296 ^ k := Nat.pow_le_pow_right (by omega) hy
  refine dg_len ?_
  rw [Nat.pow_succ]
  omega
theorem dg_prod_len {x y k j : Nat} (hx : (dg x).length ≤ k) (hy : (dg y).length ≤ j) : (dg (x * y)).length ≤ k + j := by
  have h1 := dg_hi x
  have h2 := dg_hi y
  have h3 : 4294967296 ^ (dg x).length ≤ 4294967296 ^ k := Nat.pow_le_pow_right (by omega) hx
  have h4 : 4294967296 ^ (dg y).length ≤ 4294967296 ^ j := Nat.pow_le_pow_right (by omega) hy
  refine dg_len ?_
  rw [Nat.pow_add]
  exact Nat.mul_lt_mul'' (by omega) (by omega)
theorem Mods.three {a b m : List Nat} (h : Mods [a, b, m]) : (a.length ≤ 33554432 ∧ W32 a ∧ (dg (vl a)).length ≤ 128) ∧ (b.length ≤ 33554432 ∧ W32 b ∧ (dg (vl b)).length ≤ 128) ∧ (m.length ≤ 33554432 ∧ W32 m ∧ (dg (vl m)).length ≤ 128) ∧ 2 ≤ vl m :=
  ⟨h.ok a (by simp), h.ok b (by simp), h.ok m (by simp), h.top⟩
theorem Mods.two {a m : List Nat} (h : Mods [a, m]) : (a.length ≤ 33554432 ∧ W32 a ∧ (dg (vl a)).length ≤ 128) ∧ (m.length ≤ 33554432 ∧ W32 m ∧ (dg (vl m)).length ≤ 128) ∧ 2 ≤ vl m :=
  ⟨h.ok a (by simp), h.ok m (by simp), h.top⟩
theorem half_pow (b j : Nat) : b / 2 ^ j = 2 * (b / 2 ^ (j + 1)) + (if tb b j then 1 else 0) := by
  rw [Nat.pow_succ, ← Nat.div_div_eq_div_mul]
  unfold tb
  generalize b / 2 ^ j = y
  by_cases h : y % 2 = 1
  · rw [if_pos (by rw [beq_iff_eq]; exact h)]; omega
  · rw [if_neg (by rw [beq_iff_eq]; exact h)]; omega
theorem pow_step (a b j m : Nat) : a ^ (b / 2 ^ j) % m = if tb b j then (a ^ (b / 2 ^ (j + 1)) % m * (a ^ (b / 2 ^ (j + 1)) % m) % m) * (a % m) % m else a ^ (b / 2 ^ (j + 1)) % m * (a ^ (b / 2 ^ (j + 1)) % m) % m := by
  rw [half_pow]
  generalize b / 2 ^ (j + 1) = y
  have e : a ^ (2 * y) = a ^ y * a ^ y := by rw [Nat.two_mul, Nat.pow_add]
  split
  · rw [Nat.pow_succ, e, Nat.mul_mod, Nat.mul_mod (a ^ y)]
  · rw [Nat.add_zero, e, Nat.mul_mod]
section
variable (J : Inv) (a b m : List Nat) (h : Mods [a, b, m])
include h
theorem addm_fn : Fn Tryz.prog J 102 false [wV a, wV b, wV m] (.tu [wV (dg ((vl a + vl b) % vl m)), .i 0]) := by
  refine fn_intro Tryz.func102 rfl (by kernel_rfl) (Nat.le_of_ble_eq_true (by kernel_rfl)) (by kernel_rfl) (by kernel_rfl) (by simp [V.cl, clL, wV, wds_cl, V.i]) (SGm3_ok J) ?_
  unfold Tryz.f102
  simp only [bnC, Kseq_app, Nat.reduceMul, Nat.reduceLeDiff, Nat.reduceEqDiff, Nat.reduceLT, Nat.reduceAdd, Nat.reduceSub, ↓reduceIte, implies_true, reduceCtorEq, ne_eq, ↓shr_eq, IntKind.bits, Int.reduceToNat, Int.reducePow, dite_eq_ite, Value.oneCell', Nat.reduceBEq, Nat.reduceDiv, bnS, bnN, bnT, spB, SGm3, SGm3f, SGwf, SGm2f, SGm1f, sdf, wV, unW_wds, unL, wds_nil, unW_lit]
  obtain ⟨⟨a1, a2, a3⟩, ⟨b1, b2, b3⟩, ⟨m1, m2, m3⟩, m4⟩ := h.three
  have hs := dg_sum_len a3 b3
  have hb : ∀ l : List Nat, l.length ≤ 33554432 → l.length ≤ 67108864 := fun _ h => by omega
  refine ⟨h, fun h => absurd h (by simp), fun _ => ⟨hb _ a1, hb _ b1, a2, b2, by omega, m1, W32_dg _, m2, by omega, by rw [vl_dg]⟩⟩
theorem subm_fn : Fn Tryz.prog J 100 false [wV a, wV b, wV m] (.tu [wV (dg (subM (vl a % vl m) (vl b % vl m) (vl m))), .i 0]) := by
  refine fn_intro Tryz.func100 rfl (by kernel_rfl) (Nat.le_of_ble_eq_true (by kernel_rfl)) (by kernel_rfl) (by kernel_rfl) (by simp [V.cl, clL, wV, wds_cl, V.i]) (SGm3_ok J) ?_
  unfold Tryz.f100
  simp only [bnC, Kseq_app, Nat.reduceMul, Nat.reduceLeDiff, Nat.reduceEqDiff, Nat.reduceLT, Nat.reduceAdd, Nat.reduceSub, ↓reduceIte, implies_true, reduceCtorEq, ne_eq, ↓shr_eq, IntKind.bits, Int.reduceToNat, Int.reducePow, dite_eq_ite, Value.oneCell', Nat.reduceBEq, Nat.reduceDiv, bnS, bnN, bnT, spB, SGm3, SGm3f, SGwf, SGm2f, SGm1f, sdf, wV, unW_wds, unL, wds_nil, unW_lit]
  obtain ⟨⟨a1, a2, a3⟩, ⟨b1, b2, b3⟩, ⟨m1, m2, m3⟩, m4⟩ := h.three
  have e1 : ∀ x, x % vl m < vl m := fun x => Nat.mod_lt _ (by omega)
  have e2 : ∀ x, (dg (x % vl m)).length ≤ 33554432 := fun x => by have := dg_mono (Nat.le_of_lt (e1 x)); omega
  refine ⟨h, fun h => absurd h (by simp), fun _ => ⟨a1, m1, a2, m2, by omega, b1, m1, b2, m2, by omega, e2 _, e2 _, m1, W32_dg _, W32_dg _, m2, by rw [vl_dg]; exact e1 _, by rw [vl_dg]; exact e1 _, by rw [vl_dg, vl_dg]⟩⟩
theorem mulm_fn : Fn Tryz.prog J 99 false [wV a, wV b, wV m] (.tu [wV (dg ((vl a * vl b) % vl m)), .i 0]) := by
  refine fn_intro Tryz.func99 rfl (by kernel_rfl) (Nat.le_of_ble_eq_true (by kernel_rfl)) (by kernel_rfl) (by kernel_rfl) (by simp [V.cl, clL, wV, wds_cl, V.i]) (SGm3_ok J) ?_
  unfold Tryz.f99
  simp only [bnC, Kseq_app, Nat.reduceMul, Nat.reduceLeDiff, Nat.reduceEqDiff, Nat.reduceLT, Nat.reduceAdd, Nat.reduceSub, ↓reduceIte, implies_true, reduceCtorEq, ne_eq, ↓shr_eq, IntKind.bits, Int.reduceToNat, Int.reducePow, dite_eq_ite, Value.oneCell', Nat.reduceBEq, Nat.reduceDiv, bnS, bnN, bnT, spB, SGm3, SGm3f, SGwf, SGm2f, SGm1f, sdf, wV, unW_wds, unL, wds_nil, unW_lit]
  obtain ⟨⟨a1, a2, a3⟩, ⟨b1, b2, b3⟩, ⟨m1, m2, m3⟩, m4⟩ := h.three
  have hs := dg_prod_len a3 b3
  have hb : ∀ l : List Nat, l.length ≤ 33554432 → l.length ≤ 67108864 := fun _ h => by omega
  refine ⟨h, fun h => absurd h (by simp), fun _ => ⟨hb _ a1, hb _ b1, a2, b2, by omega, m1, W32_dg _, m2, by omega, by rw [vl_dg]⟩⟩
theorem expm_fn : Fn Tryz.prog J 103 false [wV a, wV b, wV m] (.tu [wV (dg (vl a ^ vl b % vl m)), .i 0]) := by
  refine fn_intro Tryz.func103 rfl (by kernel_rfl) (Nat.le_of_ble_eq_true (by kernel_rfl)) (by kernel_rfl) (by kernel_rfl) (by simp [V.cl, clL, wV, wds_cl, V.i]) (SGm3_ok J) ?_
  unfold Tryz.f103
  simp only [bnC, Kseq_app, Nat.reduceMul, Nat.reduceLeDiff, Nat.reduceEqDiff, Nat.reduceLT, Nat.reduceAdd, Nat.reduceSub, ↓reduceIte, implies_true, reduceCtorEq, ne_eq, ↓shr_eq, IntKind.bits, Int.reduceToNat, Int.reducePow, dite_eq_ite, Value.oneCell', Nat.reduceBEq, Nat.reduceDiv, bnS, bnN, bnT, spB, SGm3, SGm3f, SGwf, SGm2f, SGm1f, sdf, wV, unW_wds, unL, wds_nil, unW_lit]
  obtain ⟨⟨a1, a2, a3⟩, ⟨b1, b2, b3⟩, ⟨m1, m2, m3⟩, m4⟩ := h.three
  have hb : ∀ l : List Nat, l.length ≤ 33554432 → l.length ≤ 67108864 := fun _ h => by omega
  have e1 : ∀ x, x % vl m < vl m := fun x => Nat.mod_lt _ (by omega)
  have e2 : ∀ x, (dg (x % vl m)).length ≤ 128 := fun x => by have := dg_mono (Nat.le_of_lt (e1 x)); omega
  have e3 : bl (vl b) ≤ 32 * 128 := by have := bl_words (vl b); omega
  have m0 : vl m ≠ 0 := by omega
  refine ⟨h, fun h => absurd h (by simp), fun _ => ⟨a1, m1, a2, m2, m0, rfl, m1, W32.one (by omega), m2, m0, hb _ b1, b2, by constructor <;> omega, ?_⟩⟩
  refine LoopC.intro (α := Nat) (fun k => k ≤ bl (vl b)) (fun k => ⟨[(0, wV (dg (vl a % vl m))), (1, wV b), (2, wV m), (9, wV (dg (vl a ^ (vl b / 2 ^ k) % vl m))), (10, .i ((k : Int) - 1))], [], 2⟩) (fun k => k) (bl (vl b)) (Nat.le_refl _) ?_ ?_
  · simp only [bnC, Kseq_app, Nat.reduceMul, Nat.reduceLeDiff, Nat.reduceEqDiff, Nat.reduceLT, Nat.reduceAdd, Nat.reduceSub, ↓reduceIte, implies_true, reduceCtorEq, ne_eq, ↓shr_eq, IntKind.bits, Int.reduceToNat, Int.reducePow, dite_eq_ite, Value.oneCell', Nat.reduceBEq, Nat.reduceDiv, bnS, bnN, bnT, spB, wV]
    rw [Nat.div_eq_of_lt (bl_lt _), Nat.pow_zero, vl_one]
  · intro k hk
    simp only [bnC, Kseq_app, Nat.reduceMul, Nat.reduceLeDiff, Nat.reduceEqDiff, Nat.reduceLT, Nat.reduceAdd, Nat.reduceSub, ↓reduceIte, implies_true, reduceCtorEq, ne_eq, ↓shr_eq, IntKind.bits, Int.reduceToNat, Int.reducePow, dite_eq_ite, Value.oneCell', Nat.reduceBEq, Nat.reduceDiv, bnS, bnN, bnT, spB, vl_dg, W32_dg, unW_wds, wV, sdf, wds_nil, SGm3, SGm3f, SGwf, SGm2f, SGm1f, unL, unW_lit]
    refine ⟨fun hb0 => ?_, fun hb0 => ?_⟩
    · have hk1 : 1 ≤ k := by simp at hb0; omega
      obtain ⟨j, rfl⟩ : ∃ j, k = j + 1 := ⟨k - 1, by omega⟩
      have hst := pow_step (vl a) (vl b) j (vl m)
      rw [show (((j + 1 : Nat) : Int) - 1).toNat = j by omega]
      have f1 := e2 (vl a ^ (vl b / 2 ^ (j + 1)))
      have f2 := dg_prod_len f1 f1
      have f3 := e2 (vl a ^ (vl b / 2 ^ (j + 1)) % vl m * (vl a ^ (vl b / 2 ^ (j + 1)) % vl m))
      have f4 := e2 (vl a)
      have f5 := dg_prod_len f3 f4
      generalize vl a ^ (vl b / 2 ^ (j + 1)) % vl m = X at *
      refine ⟨by omega, by omega, by omega, m1, m2, m0, by constructor <;> omega, b2, fun ht => ⟨by omega, by omega, by omega, m1, m2, m0, by constructor <;> omega, Again.intro j (by omega) (by show j < j + 1; omega) ?_⟩, fun ht => ⟨by constructor <;> omega, Again.intro j (by omega) (by show j < j + 1; omega) ?_⟩⟩
      · simp only [bnC, Kseq_app, Nat.reduceMul, Nat.reduceLeDiff, Nat.reduceEqDiff, Nat.reduceLT, Nat.reduceAdd, Nat.reduceSub, ↓reduceIte, implies_true, reduceCtorEq, ne_eq, ↓shr_eq, IntKind.bits, Int.reduceToNat, Int.reducePow, dite_eq_ite, Value.oneCell', Nat.reduceBEq, Nat.reduceDiv, bnS, bnN, bnT, spB, vl_dg, W32_dg, unW_wds, wV, sdf, wds_nil]
        have ht : tb (vl b) j = true := by simpa using (Bool.and_eq_true_iff.1 ht).2
        rw [hst, if_pos ht]
        first | omega | exact ⟨rfl, by omega⟩
      · simp only [bnC, Kseq_app, Nat.reduceMul, Nat.reduceLeDiff, Nat.reduceEqDiff, Nat.reduceLT, Nat.reduceAdd, Nat.reduceSub, ↓reduceIte, implies_true, reduceCtorEq, ne_eq, ↓shr_eq, IntKind.bits, Int.reduceToNat, Int.reducePow, dite_eq_ite, Value.oneCell', Nat.reduceBEq, Nat.reduceDiv, bnS, bnN, bnT, spB, vl_dg, W32_dg, unW_wds, wV, sdf, wds_nil]
        have ht : tb (vl b) j = false := by
          rw [Bool.and_eq_false_iff] at ht
          rcases ht with ht | ht
          · simp at ht <;> omega
          · exact ht
        rw [hst, if_neg (by rw [ht]; simp)]
        first | omega | exact ⟨rfl, by omega⟩
    · obtain rfl : k = 0 := by simp at hb0; omega
      rw [Nat.pow_zero, Nat.div_one]
end
end Go.Proofs.YtmpklnhmempmgaaGreatDoor
