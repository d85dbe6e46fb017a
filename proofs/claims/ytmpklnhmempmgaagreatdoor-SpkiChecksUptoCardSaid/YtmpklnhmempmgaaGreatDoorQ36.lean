/- The reference's numbers: a word, order, without noughts on top. The reference's numbers: without noughts on top. The reference's numbers: from bytes. -/
import Derived.Test.YtmpklnhmempmgaaGreatDoorQ34
namespace Go.Proofs.YtmpklnhmempmgaaGreatDoor
open Go.RowKit
set_option linter.unusedSimpArgs false
set_option maxRecDepth 100000
theorem limb6_fn (J : Inv) (l : List Nat) (i : Nat) (hw : W32 l) : Fn Tryz.prog J 105 false [wV l, .i i] (.val (.int .u64 ((l.getD i 0 : Nat) : Int))) := by
  refine fn_intro Tryz.func105 rfl (by kernel_rfl) (Nat.le_of_ble_eq_true (by kernel_rfl)) (by kernel_rfl) (by kernel_rfl) rfl (SGa_ok J) ?_
  unfold Tryz.f105
  simp only [bnC, Kseq_app, Nat.reduceMul, Nat.reduceLeDiff, Nat.reduceEqDiff, Nat.reduceLT, Nat.reduceAdd, Nat.reduceSub, ↓reduceIte, implies_true, reduceCtorEq, ne_eq, ↓shr_eq, IntKind.bits, Int.reduceToNat, Int.reducePow, dite_eq_ite, Value.oneCell', Nat.reduceBEq, Nat.reduceDiv, bnS, bnN, bnT, spB, vl_dg, W32_dg, unW_wds, wV, sdf, wds_nil, SGa, SGaf]
  have h1 := hw.get i
  refine ⟨fun h => ?_, fun h => ?_⟩
  · rw [getD_ge (by simpa using h)]; rfl
  · have h2 : i < l.length := by simpa using h
    exact ⟨by omega, by omega, wr64n (by omega)⟩
def RLaf : FuncId → List V → Option (List Prop × Bool × V) := fun f args =>
  if f = 105 then match args with
    | [.sq 1 dl Ll, .val (.int .i64 n)] => some ([dl = .val (.int .u32 0), Ll = wds (unW Ll), 0 ≤ n, W32 (unW Ll)], false, .val (.int .u64 (((unW Ll).getD n.toNat 0 : Nat) : Int)))
    | _ => none
  else none
def RLa (J : Inv) : Sig := ⟨J, sdf, RLaf, noH, 0⟩
theorem RLa_ok (J : Inv) : SigOk Tryz.prog (RLa J) := by
  refine .plain fun f args l fr r h hl => ?_
  change RLaf f args = some (l, fr, r) at h
  unfold RLaf at h
  split at h
  · rename_i hf; subst hf
    split at h
    · rename_i dl Ll n
      obtain ⟨rfl, rfl, rfl⟩ := jsome_tri h
      obtain ⟨qdl, qll, c0, c1, -⟩ := hl.un
      subst qdl
      have hp := (by have h := limb6_fn J (unW Ll) n.toNat c1; rwa [show V.i (n.toNat : Int) = .val (.int .i64 n) by unfold V.i; rw [Int.toNat_of_nonneg c0]] at h)
      unfold wV at hp
      rw [← qll] at hp
      exact hp
    · exact absurd h (by simp)
  · exact absurd h (by simp)
theorem cmp6_fn (J : Inv) (a b : List Nat) (ha : a.length ≤ 67108864) (hb : b.length ≤ 67108864) (wa : W32 a) (wb : W32 b) : Fn Tryz.prog J 80 false [wV a, wV b] (.i (cmp3 (vl a) (vl b))) := by
  refine fn_intro Tryz.func80 rfl (by kernel_rfl) (Nat.le_of_ble_eq_true (by kernel_rfl)) (by kernel_rfl) (by kernel_rfl) rfl (RLa_ok J) ?_
  unfold Tryz.f80
  simp only [bnC, Kseq_app, Nat.reduceMul, Nat.reduceLeDiff, Nat.reduceEqDiff, Nat.reduceLT, Nat.reduceAdd, Nat.reduceSub, ↓reduceIte, implies_true, reduceCtorEq, ne_eq, ↓shr_eq, IntKind.bits, Int.reduceToNat, Int.reducePow, dite_eq_ite, Value.oneCell', Nat.reduceBEq, Nat.reduceDiv, bnS, bnN, bnT, spB, vl_dg, W32_dg, unW_wds, wV, sdf, wds_nil, RLa, RLaf]
  have e1 : a.take (max a.length b.length) = a := List.take_of_length_le (Nat.le_max_left ..)
  have e2 : b.take (max a.length b.length) = b := List.take_of_length_le (Nat.le_max_right ..)
  have e3 : ∀ N, N = max a.length b.length → cmp3 (vl a) (vl b) = cmp3 (vl (a.take N)) (vl (b.take N)) := fun N h => by rw [h, e1, e2]
  refine ⟨fun h => ⟨by constructor <;> omega, ?_⟩, fun h => ⟨by constructor <;> omega, ?_⟩⟩
  case' refine_1 =>
    have hN := e3 b.length (by have h : a.length < b.length := by simpa using h
                               omega)
    have hb2 : b.length ≤ 67108864 := hb
    generalize hn : b.length = N at hN hb2 ⊢
  case' refine_2 =>
    have hN := e3 a.length (by have h : b.length ≤ a.length := by simpa using h
                               omega)
    have hb2 : a.length ≤ 67108864 := ha
    generalize hn : a.length = N at hN hb2 ⊢
  all_goals
    clear h e1 e2 e3 hn
    refine LoopC.intro (α := Nat) (fun k => k ≤ N ∧ cmp3 (vl a) (vl b) = cmp3 (vl (a.take k)) (vl (b.take k))) (fun k => ⟨[(0, wV a), (1, wV b), (6, .i ((k : Int) - 1))], [], 0⟩) (fun k => k) N ⟨Nat.le_refl _, hN⟩ ?_ ?_
    · simp only [bnC, Kseq_app, Nat.reduceMul, Nat.reduceLeDiff, Nat.reduceEqDiff, Nat.reduceLT, Nat.reduceAdd, Nat.reduceSub, ↓reduceIte, implies_true, reduceCtorEq, ne_eq, ↓shr_eq, IntKind.bits, Int.reduceToNat, Int.reducePow, dite_eq_ite, Value.oneCell', Nat.reduceBEq, Nat.reduceDiv, bnS, bnN, bnT, spB, vl_dg, W32_dg, unW_wds, wV, sdf, wds_nil]
    · rintro k ⟨h3, h4⟩
      simp only [bnC, Kseq_app, Nat.reduceMul, Nat.reduceLeDiff, Nat.reduceEqDiff, Nat.reduceLT, Nat.reduceAdd, Nat.reduceSub, ↓reduceIte, implies_true, reduceCtorEq, ne_eq, ↓shr_eq, IntKind.bits, Int.reduceToNat, Int.reducePow, dite_eq_ite, Value.oneCell', Nat.reduceBEq, Nat.reduceDiv, bnS, bnN, bnT, spB, vl_dg, W32_dg, unW_wds, wV, sdf, wds_nil, RLa, RLaf]
      refine ⟨fun h5 => ?_, fun h5 => ?_⟩
      · obtain ⟨k, rfl⟩ : ∃ j, k = j + 1 := ⟨k - 1, by simp at h5; omega⟩
        rw [show (((k + 1 : Nat) : Int) - 1).toNat = k by omega]
        refine ⟨by omega, wa, by omega, wb, fun h6 => ?_, fun h6 => ⟨fun h7 => ?_, fun h7 => ⟨by constructor <;> omega, Again.intro k ⟨by omega, ?_⟩ (by omega) ?_⟩⟩⟩
        · rw [h4, cmp3_lt (word_lt wa (by simpa using h6))]
        · rw [h4, cmp3_gt (word_lt wb (by simpa using h7))]
        · rw [h4, word_eq (by simp only [decide_eq_false_iff_not] at h6 h7; omega)]
        · simp only [bnC, Kseq_app, Nat.reduceMul, Nat.reduceLeDiff, Nat.reduceEqDiff, Nat.reduceLT, Nat.reduceAdd, Nat.reduceSub, ↓reduceIte, implies_true, reduceCtorEq, ne_eq, ↓shr_eq, IntKind.bits, Int.reduceToNat, Int.reducePow, dite_eq_ite, Value.oneCell', Nat.reduceBEq, Nat.reduceDiv, bnS, bnN, bnT, spB, vl_dg, W32_dg, unW_wds, wV, sdf, wds_nil]
          omega
      · obtain rfl : k = 0 := by simp at h5; omega
        rw [h4]
        rfl
theorem limb7_fn (J : Inv) (l : List Nat) (i : Nat) (hw : W32 l) : Fn Tryz.prog J 87 false [wV l, .i i] (.val (.int .u64 ((l.getD i 0 : Nat) : Int))) := by
  refine fn_intro Tryz.func87 rfl (by kernel_rfl) (Nat.le_of_ble_eq_true (by kernel_rfl)) (by kernel_rfl) (by kernel_rfl) rfl (SGa_ok J) ?_
  unfold Tryz.f87
  simp only [bnC, Kseq_app, Nat.reduceMul, Nat.reduceLeDiff, Nat.reduceEqDiff, Nat.reduceLT, Nat.reduceAdd, Nat.reduceSub, ↓reduceIte, implies_true, reduceCtorEq, ne_eq, ↓shr_eq, IntKind.bits, Int.reduceToNat, Int.reducePow, dite_eq_ite, Value.oneCell', Nat.reduceBEq, Nat.reduceDiv, bnS, bnN, bnT, spB, vl_dg, W32_dg, unW_wds, wV, sdf, wds_nil, SGa, SGaf]
  have h1 := hw.get i
  refine ⟨fun h => ?_, fun h => ?_⟩
  · rw [getD_ge (by simpa using h)]; rfl
  · have h2 : i < l.length := by simpa using h
    exact ⟨by omega, by omega, wr64n (by omega)⟩
def RLbf : FuncId → List V → Option (List Prop × Bool × V) := fun f args =>
  if f = 87 then match args with
    | [.sq 1 dl Ll, .val (.int .i64 n)] => some ([dl = .val (.int .u32 0), Ll = wds (unW Ll), 0 ≤ n, W32 (unW Ll)], false, .val (.int .u64 (((unW Ll).getD n.toNat 0 : Nat) : Int)))
    | _ => none
  else none
def RLb (J : Inv) : Sig := ⟨J, sdf, RLbf, noH, 0⟩
theorem RLb_ok (J : Inv) : SigOk Tryz.prog (RLb J) := by
  refine .plain fun f args l fr r h hl => ?_
  change RLbf f args = some (l, fr, r) at h
  unfold RLbf at h
  split at h
  · rename_i hf; subst hf
    split at h
    · rename_i dl Ll n
      obtain ⟨rfl, rfl, rfl⟩ := jsome_tri h
      obtain ⟨qdl, qll, c0, c1, -⟩ := hl.un
      subst qdl
      have hp := (by have h := limb7_fn J (unW Ll) n.toNat c1; rwa [show V.i (n.toNat : Int) = .val (.int .i64 n) by unfold V.i; rw [Int.toNat_of_nonneg c0]] at h)
      unfold wV at hp
      rw [← qll] at hp
      exact hp
    · exact absurd h (by simp)
  · exact absurd h (by simp)
theorem cmp7_fn (J : Inv) (a b : List Nat) (ha : a.length ≤ 67108864) (hb : b.length ≤ 67108864) (wa : W32 a) (wb : W32 b) : Fn Tryz.prog J 38 false [wV a, wV b] (.i (cmp3 (vl a) (vl b))) := by
  refine fn_intro Tryz.func38 rfl (by kernel_rfl) (Nat.le_of_ble_eq_true (by kernel_rfl)) (by kernel_rfl) (by kernel_rfl) rfl (RLb_ok J) ?_
  unfold Tryz.f38
  simp only [bnC, Kseq_app, Nat.reduceMul, Nat.reduceLeDiff, Nat.reduceEqDiff, Nat.reduceLT, Nat.reduceAdd, Nat.reduceSub, ↓reduceIte, implies_true, reduceCtorEq, ne_eq, ↓shr_eq, IntKind.bits, Int.reduceToNat, Int.reducePow, dite_eq_ite, Value.oneCell', Nat.reduceBEq, Nat.reduceDiv, bnS, bnN, bnT, spB, vl_dg, W32_dg, unW_wds, wV, sdf, wds_nil, RLb, RLbf]
  have e1 : a.take (max a.length b.length) = a := List.take_of_length_le (Nat.le_max_left ..)
  have e2 : b.take (max a.length b.length) = b := List.take_of_length_le (Nat.le_max_right ..)
  have hN : ∀ N, N = max a.length b.length → cmp3 (vl a) (vl b) = cmp3 (vl (a.take N)) (vl (b.take N)) := fun N h => by rw [h, e1, e2]
  rw [show imax (a.length : Int) b.length = ((max a.length b.length : Nat) : Int) by unfold imax; omega]
  have hN := hN _ rfl
  have hb2 : max a.length b.length ≤ 67108864 := by omega
  generalize max a.length b.length = N at hN hb2 ⊢
  refine ⟨by constructor <;> omega, ?_⟩
  refine LoopC.intro (α := Nat) (fun k => k ≤ N ∧ cmp3 (vl a) (vl b) = cmp3 (vl (a.take k)) (vl (b.take k))) (fun k => ⟨[(0, wV a), (1, wV b), (5, .i ((k : Int) - 1))], [], 0⟩) (fun k => k) N ⟨Nat.le_refl _, hN⟩ ?_ ?_
  · simp only [bnC, Kseq_app, Nat.reduceMul, Nat.reduceLeDiff, Nat.reduceEqDiff, Nat.reduceLT, Nat.reduceAdd, Nat.reduceSub, ↓reduceIte, implies_true, reduceCtorEq, ne_eq, ↓shr_eq, IntKind.bits, Int.reduceToNat, Int.reducePow, dite_eq_ite, Value.oneCell', Nat.reduceBEq, Nat.reduceDiv, bnS, bnN, bnT, spB, vl_dg, W32_dg, unW_wds, wV, sdf, wds_nil]
  · rintro k ⟨h3, h4⟩
    simp only [bnC, Kseq_app, Nat.reduceMul, Nat.reduceLeDiff, Nat.reduceEqDiff, Nat.reduceLT, Nat.reduceAdd, Nat.reduceSub, ↓reduceIte, implies_true, reduceCtorEq, ne_eq, ↓shr_eq, IntKind.bits, Int.reduceToNat, Int.reducePow, dite_eq_ite, Value.oneCell', Nat.reduceBEq, Nat.reduceDiv, bnS, bnN, bnT, spB, vl_dg, W32_dg, unW_wds, wV, sdf, wds_nil, RLb, RLbf]
    refine ⟨fun h5 => ?_, fun h5 => ?_⟩
    · obtain ⟨k, rfl⟩ : ∃ j, k = j + 1 := ⟨k - 1, by simp at h5; omega⟩
      rw [show (((k + 1 : Nat) : Int) - 1).toNat = k by omega]
      refine ⟨by omega, wa, by omega, wb, fun h6 => ?_, fun h6 => ⟨by omega, wa, by omega, wb, fun h7 => ?_, fun h7 => ⟨by constructor <;> omega, Again.intro k ⟨by omega, ?_⟩ (by omega) ?_⟩⟩⟩
      · rw [h4, cmp3_lt (word_lt wa (by simpa using h6))]
      · rw [h4, cmp3_gt (word_lt wb (by simpa using h7))]
      · rw [h4, word_eq (by simp only [decide_eq_false_iff_not] at h6 h7; omega)]
      · simp only [bnC, Kseq_app, Nat.reduceMul, Nat.reduceLeDiff, Nat.reduceEqDiff, Nat.reduceLT, Nat.reduceAdd, Nat.reduceSub, ↓reduceIte, implies_true, reduceCtorEq, ne_eq, ↓shr_eq, IntKind.bits, Int.reduceToNat, Int.reducePow, dite_eq_ite, Value.oneCell', Nat.reduceBEq, Nat.reduceDiv, bnS, bnN, bnT, spB, vl_dg, W32_dg, unW_wds, wV, sdf, wds_nil]
        omega
    · obtain rfl : k = 0 := by simp at h5; omega
      rw [h4]
      rfl
theorem proper6_fn (J : Inv) (l : List Nat) (hl : l.length ≤ 67108864) (hw : W32 l) : Fn Tryz.prog J 78 false [wV l] (wV (dg (vl l))) := by
  rw [← trim_dg hw]
  refine fn_intro Tryz.func78 rfl (by kernel_rfl) (Nat.le_of_ble_eq_true (by kernel_rfl)) (by kernel_rfl) (by kernel_rfl) (wV_cl _) (SGa_ok J) ?_
  unfold Tryz.f78
  simp only [bnC, Kseq_app, Nat.reduceMul, Nat.reduceLeDiff, Nat.reduceEqDiff, Nat.reduceLT, Nat.reduceAdd, Nat.reduceSub, ↓reduceIte, implies_true, reduceCtorEq, ne_eq, ↓shr_eq, IntKind.bits, Int.reduceToNat, Int.reducePow, dite_eq_ite, Value.oneCell', Nat.reduceBEq, Nat.reduceDiv, bnS, bnN, bnT, spB, vl_dg, W32_dg, unW_wds, wV, sdf, wds_nil, SGa, SGaf]
  refine LoopC.intro (α := Nat) (fun k => k ≤ l.length ∧ trim (l.take k) = trim l) (fun k => ⟨[(0, wV l), (3, .i k)], [], 0⟩) (fun k => k) l.length ⟨Nat.le_refl _, by rw [List.take_length]⟩ ?_ ?_
  · simp only [bnC, Kseq_app, Nat.reduceMul, Nat.reduceLeDiff, Nat.reduceEqDiff, Nat.reduceLT, Nat.reduceAdd, Nat.reduceSub, ↓reduceIte, implies_true, reduceCtorEq, ne_eq, ↓shr_eq, IntKind.bits, Int.reduceToNat, Int.reducePow, dite_eq_ite, Value.oneCell', Nat.reduceBEq, Nat.reduceDiv, bnS, bnN, bnT, spB, vl_dg, W32_dg, unW_wds, wV, sdf, wds_nil]
  · rintro k ⟨h1, h2⟩
    simp only [bnC, Kseq_app, Nat.reduceMul, Nat.reduceLeDiff, Nat.reduceEqDiff, Nat.reduceLT, Nat.reduceAdd, Nat.reduceSub, ↓reduceIte, implies_true, reduceCtorEq, ne_eq, ↓shr_eq, IntKind.bits, Int.reduceToNat, Int.reducePow, dite_eq_ite, Value.oneCell', Nat.reduceBEq, Nat.reduceDiv, bnS, bnN, bnT, spB, vl_dg, W32_dg, unW_wds, wV, sdf, wds_nil, SGa, SGaf]
    refine ⟨fun _ => by constructor <;> omega, fun _ => by omega, fun _ => by omega, fun h => ?_, fun h => ?_⟩
    · rw [Bool.and_eq_true, decide_eq_true_eq, beq_iff_eq] at h
      obtain ⟨j, rfl⟩ : ∃ j, k = j + 1 := ⟨k - 1, by omega⟩
      rw [show (((j + 1 : Nat) : Int) - 1).toNat = j by omega] at h
      refine ⟨by constructor <;> omega, Again.intro j ⟨by omega, ?_⟩ (by omega) ?_⟩
      · rw [← h2, trim_take (by omega) (by omega)]
      · simp only [bnC, Kseq_app, Nat.reduceMul, Nat.reduceLeDiff, Nat.reduceEqDiff, Nat.reduceLT, Nat.reduceAdd, Nat.reduceSub, ↓reduceIte, implies_true, reduceCtorEq, ne_eq, ↓shr_eq, IntKind.bits, Int.reduceToNat, Int.reducePow, dite_eq_ite, Value.oneCell', Nat.reduceBEq, Nat.reduceDiv, bnS, bnN, bnT, spB, vl_dg, W32_dg, unW_wds, wV, sdf, wds_nil]
        omega
    · have ht : l.take k = trim l := by
        rcases Nat.eq_zero_or_pos k with rfl | hk
        · rw [← h2]; rfl
        · obtain ⟨j, rfl⟩ : ∃ j, k = j + 1 := ⟨k - 1, by omega⟩
          rw [show (((j + 1 : Nat) : Int) - 1).toNat = j by omega, decide_eq_true (by omega), Bool.true_and, beq_eq_false_iff_ne] at h
          rw [← h2, trim_take_last (by omega) (by omega)]
      clear h
      refine LoopC.introA (α := Nat × Nat) (fun y => y.1 ≤ k) (fun y => ⟨[(0, wV l), (3, .i k), (4, .ro (.r y.2)), (5, .i y.1)], [(y.2, .row 69 (wV (l.take y.1)))], y.2 + 1⟩) (fun y => k - y.1) (0, 0) [.sl 4 69 (wV [])] (Nat.zero_le _) ?_ ?_
      · simp only [bnC, Kseq_app, Nat.reduceMul, Nat.reduceLeDiff, Nat.reduceEqDiff, Nat.reduceLT, Nat.reduceAdd, Nat.reduceSub, ↓reduceIte, implies_true, reduceCtorEq, ne_eq, ↓shr_eq, IntKind.bits, Int.reduceToNat, Int.reducePow, dite_eq_ite, Value.oneCell', Nat.reduceBEq, Nat.reduceDiv, bnS, bnN, bnT, spB, vl_dg, W32_dg, unW_wds, wV, sdf, wds_nil, List.take_zero]
        rfl
      · rintro ⟨i, r⟩ h3
        simp only at h3
        simp only [bnC, Kseq_app, Nat.reduceMul, Nat.reduceLeDiff, Nat.reduceEqDiff, Nat.reduceLT, Nat.reduceAdd, Nat.reduceSub, ↓reduceIte, implies_true, reduceCtorEq, ne_eq, ↓shr_eq, IntKind.bits, Int.reduceToNat, Int.reducePow, dite_eq_ite, Value.oneCell', Nat.reduceBEq, Nat.reduceDiv, bnS, bnN, bnT, spB, vl_dg, W32_dg, unW_wds, wV, sdf, wds_nil, SGa, SGaf]
        refine ⟨fun h => ?_, fun h => ?_⟩
        · have h : i < k := by simpa using h
          have e2 : l.take (i + 1) = l.take i ++ [l.getD i 0] := by rw [List.take_succ_eq_append_getElem (by omega), List.getD_eq_getElem?_getD, List.getElem?_eq_getElem (by omega)]; rfl
          have e3 : (l.take i ++ [l.getD i 0]).length ≤ 67108865 := by rw [← e2, List.length_take]; omega
          refine ⟨by omega, by omega, by omega, by constructor <;> omega, Again.intro (i + 1, r + 2) h (by simp only; omega) ?_⟩
          simp only [bnC, Kseq_app, Nat.reduceMul, Nat.reduceLeDiff, Nat.reduceEqDiff, Nat.reduceLT, Nat.reduceAdd, Nat.reduceSub, ↓reduceIte, implies_true, reduceCtorEq, ne_eq, ↓shr_eq, IntKind.bits, Int.reduceToNat, Int.reducePow, dite_eq_ite, Value.oneCell', Nat.reduceBEq, Nat.reduceDiv, bnS, bnN, bnT, spB, vl_dg, W32_dg, unW_wds, wV, sdf, wds_nil, e2]
          exact ⟨by omega, Nat.le_refl _⟩
        · obtain rfl : i = k := by have h : k ≤ i := by simpa using h
                                   omega
          rw [ht]
theorem proper11_fn (J : Inv) (l : List Nat) (hl : l.length ≤ 67108864) (hw : W32 l) : Fn Tryz.prog J 79 false [wV l] (wV (dg (vl l))) := by
  rw [← trim_dg hw]
  refine fn_intro Tryz.func79 rfl (by kernel_rfl) (Nat.le_of_ble_eq_true (by kernel_rfl)) (by kernel_rfl) (by kernel_rfl) (wV_cl _) (SGa_ok J) ?_
  unfold Tryz.f79
  simp only [bnC, Kseq_app, Nat.reduceMul, Nat.reduceLeDiff, Nat.reduceEqDiff, Nat.reduceLT, Nat.reduceAdd, Nat.reduceSub, ↓reduceIte, implies_true, reduceCtorEq, ne_eq, ↓shr_eq, IntKind.bits, Int.reduceToNat, Int.reducePow, dite_eq_ite, Value.oneCell', Nat.reduceBEq, Nat.reduceDiv, bnS, bnN, bnT, spB, vl_dg, W32_dg, unW_wds, wV, sdf, wds_nil, SGa, SGaf]
  refine LoopC.intro (α := Nat) (fun k => k ≤ l.length ∧ trim (l.take k) = trim l) (fun k => ⟨[(0, wV l), (3, .val (.slice none 0 0)), (4, .i k)], [], 0⟩) (fun k => k) l.length ⟨Nat.le_refl _, by rw [List.take_length]⟩ ?_ ?_
  · simp only [bnC, Kseq_app, Nat.reduceMul, Nat.reduceLeDiff, Nat.reduceEqDiff, Nat.reduceLT, Nat.reduceAdd, Nat.reduceSub, ↓reduceIte, implies_true, reduceCtorEq, ne_eq, ↓shr_eq, IntKind.bits, Int.reduceToNat, Int.reducePow, dite_eq_ite, Value.oneCell', Nat.reduceBEq, Nat.reduceDiv, bnS, bnN, bnT, spB, vl_dg, W32_dg, unW_wds, wV, sdf, wds_nil]
  · rintro k ⟨h1, h2⟩
    simp only [bnC, Kseq_app, Nat.reduceMul, Nat.reduceLeDiff, Nat.reduceEqDiff, Nat.reduceLT, Nat.reduceAdd, Nat.reduceSub, ↓reduceIte, implies_true, reduceCtorEq, ne_eq, ↓shr_eq, IntKind.bits, Int.reduceToNat, Int.reducePow, dite_eq_ite, Value.oneCell', Nat.reduceBEq, Nat.reduceDiv, bnS, bnN, bnT, spB, vl_dg, W32_dg, unW_wds, wV, sdf, wds_nil, SGa, SGaf]
    refine ⟨fun _ => by constructor <;> omega, fun _ => by omega, fun _ => by omega, fun h => ?_, fun h => ?_⟩
    · rw [Bool.and_eq_true, decide_eq_true_eq, beq_iff_eq] at h
      obtain ⟨j, rfl⟩ : ∃ j, k = j + 1 := ⟨k - 1, by omega⟩
      rw [show (((j + 1 : Nat) : Int) - 1).toNat = j by omega] at h
      refine ⟨by constructor <;> omega, Again.intro j ⟨by omega, ?_⟩ (by omega) ?_⟩
      · rw [← h2, trim_take (by omega) (by omega)]
      · simp only [bnC, Kseq_app, Nat.reduceMul, Nat.reduceLeDiff, Nat.reduceEqDiff, Nat.reduceLT, Nat.reduceAdd, Nat.reduceSub, ↓reduceIte, implies_true, reduceCtorEq, ne_eq, ↓shr_eq, IntKind.bits, Int.reduceToNat, Int.reducePow, dite_eq_ite, Value.oneCell', Nat.reduceBEq, Nat.reduceDiv, bnS, bnN, bnT, spB, vl_dg, W32_dg, unW_wds, wV, sdf, wds_nil]
        omega
    · have ht : l.take k = trim l := by
        rcases Nat.eq_zero_or_pos k with rfl | hk
        · rw [← h2]; rfl
        · obtain ⟨j, rfl⟩ : ∃ j, k = j + 1 := ⟨k - 1, by omega⟩
          rw [show (((j + 1 : Nat) : Int) - 1).toNat = j by omega, decide_eq_true (by omega), Bool.true_and, beq_eq_false_iff_ne] at h
          rw [← h2, trim_take_last (by omega) (by omega)]
      clear h
      refine LoopC.introA (α := Nat × Nat) (fun y => y.1 ≤ k) (fun y => ⟨[(0, wV l), (4, .i k), (3, .ro (.r y.2)), (5, .i y.1)], [(y.2, .row 69 (wV (l.take y.1)))], y.2 + 1⟩) (fun y => k - y.1) (0, 0) [.sl 3 69 (wV [])] (Nat.zero_le _) ?_ ?_
      · simp only [bnC, Kseq_app, Nat.reduceMul, Nat.reduceLeDiff, Nat.reduceEqDiff, Nat.reduceLT, Nat.reduceAdd, Nat.reduceSub, ↓reduceIte, implies_true, reduceCtorEq, ne_eq, ↓shr_eq, IntKind.bits, Int.reduceToNat, Int.reducePow, dite_eq_ite, Value.oneCell', Nat.reduceBEq, Nat.reduceDiv, bnS, bnN, bnT, spB, vl_dg, W32_dg, unW_wds, wV, sdf, wds_nil, List.take_zero]
        rfl
      · rintro ⟨i, r⟩ h3
        simp only at h3
        simp only [bnC, Kseq_app, Nat.reduceMul, Nat.reduceLeDiff, Nat.reduceEqDiff, Nat.reduceLT, Nat.reduceAdd, Nat.reduceSub, ↓reduceIte, implies_true, reduceCtorEq, ne_eq, ↓shr_eq, IntKind.bits, Int.reduceToNat, Int.reducePow, dite_eq_ite, Value.oneCell', Nat.reduceBEq, Nat.reduceDiv, bnS, bnN, bnT, spB, vl_dg, W32_dg, unW_wds, wV, sdf, wds_nil, SGa, SGaf]
        refine ⟨fun h => ?_, fun h => ?_⟩
        · have h : i < k := by simpa using h
          have e2 : l.take (i + 1) = l.take i ++ [l.getD i 0] := by rw [List.take_succ_eq_append_getElem (by omega), List.getD_eq_getElem?_getD, List.getElem?_eq_getElem (by omega)]; rfl
          have e3 : (l.take i ++ [l.getD i 0]).length ≤ 67108865 := by rw [← e2, List.length_take]; omega
          refine ⟨by omega, by omega, by omega, by constructor <;> omega, Again.intro (i + 1, r + 2) h (by simp only; omega) ?_⟩
          simp only [bnC, Kseq_app, Nat.reduceMul, Nat.reduceLeDiff, Nat.reduceEqDiff, Nat.reduceLT, Nat.reduceAdd, Nat.reduceSub, ↓reduceIte, implies_true, reduceCtorEq, ne_eq, ↓shr_eq, IntKind.bits, Int.reduceToNat, Int.reducePow, dite_eq_ite, Value.oneCell', Nat.reduceBEq, Nat.reduceDiv, bnS, bnN, bnT, spB, vl_dg, W32_dg, unW_wds, wV, sdf, wds_nil, e2]
          exact ⟨by omega, Nat.le_refl _⟩
        · obtain rfl : i = k := by have h : k ≤ i := by simpa using h
                                   omega
          rw [ht]
theorem trim7_fn (J : Inv) (l : List Nat) (hl : l.length ≤ 67108864) (hw : W32 l) : Fn Tryz.prog J 86 false [wV l] (wV (dg (vl l))) := by
  rw [← trim_dg hw]
  refine fn_intro Tryz.func86 rfl (by kernel_rfl) (Nat.le_of_ble_eq_true (by kernel_rfl)) (by kernel_rfl) (by kernel_rfl) (wV_cl _) (SGa_ok J) ?_
  unfold Tryz.f86
  simp only [bnC, Kseq_app, Nat.reduceMul, Nat.reduceLeDiff, Nat.reduceEqDiff, Nat.reduceLT, Nat.reduceAdd, Nat.reduceSub, ↓reduceIte, implies_true, reduceCtorEq, ne_eq, ↓shr_eq, IntKind.bits, Int.reduceToNat, Int.reducePow, dite_eq_ite, Value.oneCell', Nat.reduceBEq, Nat.reduceDiv, bnS, bnN, bnT, spB, vl_dg, W32_dg, unW_wds, wV, sdf, wds_nil, SGa, SGaf]
  refine LoopC.intro (α := Nat) (fun k => k ≤ l.length ∧ trim (l.take k) = trim l) (fun k => ⟨[(0, wV l), (3, .i k)], [], 0⟩) (fun k => k) l.length ⟨Nat.le_refl _, by rw [List.take_length]⟩ ?_ ?_
  · simp only [bnC, Kseq_app, Nat.reduceMul, Nat.reduceLeDiff, Nat.reduceEqDiff, Nat.reduceLT, Nat.reduceAdd, Nat.reduceSub, ↓reduceIte, implies_true, reduceCtorEq, ne_eq, ↓shr_eq, IntKind.bits, Int.reduceToNat, Int.reducePow, dite_eq_ite, Value.oneCell', Nat.reduceBEq, Nat.reduceDiv, bnS, bnN, bnT, spB, vl_dg, W32_dg, unW_wds, wV, sdf, wds_nil]
  · rintro k ⟨h1, h2⟩
    simp only [bnC, Kseq_app, Nat.reduceMul, Nat.reduceLeDiff, Nat.reduceEqDiff, Nat.reduceLT, Nat.reduceAdd, Nat.reduceSub, ↓reduceIte, implies_true, reduceCtorEq, ne_eq, ↓shr_eq, IntKind.bits, Int.reduceToNat, Int.reducePow, dite_eq_ite, Value.oneCell', Nat.reduceBEq, Nat.reduceDiv, bnS, bnN, bnT, spB, vl_dg, W32_dg, unW_wds, wV, sdf, wds_nil, SGa, SGaf]
    refine ⟨fun _ => by constructor <;> omega, fun _ => by omega, fun _ => by omega, fun h => ?_, fun h => ?_⟩
    · rw [Bool.and_eq_true, decide_eq_true_eq, beq_iff_eq] at h
      obtain ⟨j, rfl⟩ : ∃ j, k = j + 1 := ⟨k - 1, by omega⟩
      rw [show (((j + 1 : Nat) : Int) - 1).toNat = j by omega] at h
      refine ⟨by constructor <;> omega, Again.intro j ⟨by omega, ?_⟩ (by omega) ?_⟩
      · rw [← h2, trim_take (by omega) (by omega)]
      · simp only [bnC, Kseq_app, Nat.reduceMul, Nat.reduceLeDiff, Nat.reduceEqDiff, Nat.reduceLT, Nat.reduceAdd, Nat.reduceSub, ↓reduceIte, implies_true, reduceCtorEq, ne_eq, ↓shr_eq, IntKind.bits, Int.reduceToNat, Int.reducePow, dite_eq_ite, Value.oneCell', Nat.reduceBEq, Nat.reduceDiv, bnS, bnN, bnT, spB, vl_dg, W32_dg, unW_wds, wV, sdf, wds_nil]
        omega
    · have ht : l.take k = trim l := by
        rcases Nat.eq_zero_or_pos k with rfl | hk
        · rw [← h2]; rfl
        · obtain ⟨j, rfl⟩ : ∃ j, k = j + 1 := ⟨k - 1, by omega⟩
          rw [show (((j + 1 : Nat) : Int) - 1).toNat = j by omega, decide_eq_true (by omega), Bool.true_and, beq_eq_false_iff_ne] at h
          rw [← h2, trim_take_last (by omega) (by omega)]
      exact ⟨by omega, by omega, by rw [List.length_take]; omega, by rw [ht]⟩
theorem nb_app2 (a c : List UInt8) : nb (a ++ c) = nb a * 256 ^ c.length + nb c := by
  suffices h : ∀ n, ∀ c : List UInt8, c.length = n → nb (a ++ c) = nb a * 256 ^ n + nb c from h _ c rfl
  intro n
  induction n with
  | zero => intro c h; rw [List.length_eq_zero_iff.1 h, List.append_nil]; simp [nb]
  | succ n ih =>
    intro c h
    rcases List.eq_nil_or_concat c with rfl | ⟨c, d, rfl⟩
    · simp at h
    · rw [List.concat_eq_append] at *
      rw [← List.append_assoc, nb_snoc, nb_snoc, ih c (by simpa using h), Nat.pow_succ, Nat.mul_add, ← Nat.mul_assoc (nb a), Nat.mul_comm 256 (nb a * 256 ^ n)]
      omega
/-- The bytes from lo on, k places (those below nought count nothing). -/
def ub (b : List UInt8) (lo : Int) (k : Nat) : Nat := nb ((b.take (lo + k).toNat).drop lo.toNat)
theorem ub_zero (b : List UInt8) (lo : Int) : ub b lo 0 = 0 := by
  unfold ub
  rw [show lo + ((0 : Nat) : Int) = lo by omega, List.drop_take, Nat.sub_self]; rfl
theorem ub_neg {b : List UInt8} {lo : Int} {k : Nat} (h : lo + k < 0) : ub b lo (k + 1) = 0 := by
  unfold ub
  rw [show (lo + ((k + 1 : Nat) : Int)).toNat = 0 by omega]; simp [nb]
theorem ub_step {b : List UInt8} {lo : Int} {k : Nat} (h : 0 ≤ lo + k) (h2 : lo + k < b.length) : ub b lo (k + 1) = ub b lo k * 256 + (b.getD (lo + k).toNat 0).toNat := by
  unfold ub
  rw [show (lo + ((k + 1 : Nat) : Int)).toNat = (lo + k).toNat + 1 by omega]
  have hk : (lo + k).toNat < b.length := by omega
  have e2 : b.take ((lo + k).toNat + 1) = b.take (lo + k).toNat ++ [b.getD (lo + k).toNat 0] := by rw [List.take_succ_eq_append_getElem hk, List.getD_eq_getElem?_getD, List.getElem?_eq_getElem hk]; rfl
  rw [e2, List.drop_append_of_le_length (by rw [List.length_take]; omega), nb_snoc, Nat.mul_comm 256]
theorem ub_lt (b : List UInt8) (lo : Int) (k : Nat) : ub b lo k < 256 ^ k := by
  unfold ub
  refine Nat.lt_of_lt_of_le (nb_lt _) (Nat.pow_le_pow_right (by omega) ?_)
  rw [List.length_drop, List.length_take]
  omega
theorem ub_join {b : List UInt8} {t : Nat} (h : 4 * t < b.length) : nb (b.drop ((b.length : Int) - 4 * t - 4).toNat) = ub b ((b.length : Int) - 4 * t - 4) 4 * 4294967296 ^ t + nb (b.drop (b.length - 4 * t)) := by
  unfold ub
  have e : (b.length : Int) - 4 * t - 4 + ((4 : Nat) : Int) = ((b.length - 4 * t : Nat) : Int) := by omega
  rw [e, Int.toNat_natCast]
  have e2 : b.drop ((b.length : Int) - 4 * t - 4).toNat = (b.take (b.length - 4 * t)).drop ((b.length : Int) - 4 * t - 4).toNat ++ b.drop (b.length - 4 * t) := by
    rw [← List.drop_append_of_le_length (by rw [List.length_take]; omega), List.take_append_drop]
  rw [e2, nb_app2, List.length_drop, show b.length - (b.length - 4 * t) = 4 * t by omega, Nat.pow_mul]
def RLcf : FuncId → List V → Option (List Prop × Bool × V) := fun f args =>
  if f = 78 then match args with
    | [.sq 1 dl Ll] => some ([dl = .val (.int .u32 0), Ll = wds (unW Ll), (unW Ll).length ≤ 67108864, W32 (unW Ll)], false, wV (dg (vl (unW Ll))))
    | _ => none
  else none
def RLc (J : Inv) : Sig := ⟨J, sdf, RLcf, noH, 0⟩
theorem RLc_ok (J : Inv) : SigOk Tryz.prog (RLc J) := by
  refine .plain fun f args l fr r h hl => ?_
  change RLcf f args = some (l, fr, r) at h
  unfold RLcf at h
  split at h
  · rename_i hf; subst hf
    split at h
    · rename_i dl Ll
      obtain ⟨rfl, rfl, rfl⟩ := jsome_tri h
      obtain ⟨qdl, qll, c0, c1, -⟩ := hl.un
      subst qdl
      have hp := proper6_fn J (unW Ll) c0 c1
      unfold wV at hp
      rw [← qll] at hp
      exact hp
    · exact absurd h (by simp)
  · exact absurd h (by simp)
theorem fromBytes6_fn (J : Inv) (b : List UInt8) (hb : b.length ≤ 67108864) : Fn Tryz.prog J 35 false [.by b] (wV (dg (nb b))) := by
  refine fn_intro Tryz.func35 rfl (by kernel_rfl) (Nat.le_of_ble_eq_true (by kernel_rfl)) (by kernel_rfl) (by kernel_rfl) (wV_cl _) (RLc_ok J) ?_
  unfold Tryz.f35
  simp only [bnC, Kseq_app, Nat.reduceMul, Nat.reduceLeDiff, Nat.reduceEqDiff, Nat.reduceLT, Nat.reduceAdd, Nat.reduceSub, ↓reduceIte, implies_true, reduceCtorEq, ne_eq, ↓shr_eq, IntKind.bits, Int.reduceToNat, Int.reducePow, dite_eq_ite, Value.oneCell', Nat.reduceBEq, Nat.reduceDiv, bnS, bnN, bnT, spB, vl_dg, W32_dg, unW_wds, wV, sdf, wds_nil, RLc, RLcf]
  refine LoopC.introA (α := List Nat × Nat) (fun y => 4 * y.1.length < b.length + 4 ∧ W32 y.1 ∧ vl y.1 = nb (b.drop (b.length - 4 * y.1.length))) (fun y => ⟨[(0, .by b), (3, .ro (.r y.2)), (4, .i ((b.length : Int) - 4 * y.1.length))], [(y.2, .row 69 (wV y.1))], y.2 + 1⟩) (fun y => b.length + 4 - 4 * y.1.length) ([], 0) [.sl 3 69 (wV [])] ⟨by simp only [List.length_nil]; omega, W32.nil, ?_⟩ ?_ ?_
  · simp only [List.length_nil]
    rw [show b.length - 4 * 0 = b.length by omega, List.drop_length]; rfl
  · simp only [bnC, Kseq_app, Nat.reduceMul, Nat.reduceLeDiff, Nat.reduceEqDiff, Nat.reduceLT, Nat.reduceAdd, Nat.reduceSub, ↓reduceIte, implies_true, reduceCtorEq, ne_eq, ↓shr_eq, IntKind.bits, Int.reduceToNat, Int.reducePow, dite_eq_ite, Value.oneCell', Nat.reduceBEq, Nat.reduceDiv, bnS, bnN, bnT, spB, vl_dg, W32_dg, unW_wds, wV, sdf, wds_nil, List.length_nil]
    omega
  · rintro ⟨o, r⟩ ⟨h1, h2, h3⟩
    simp only at h1 h2 h3
    simp only [bnC, Kseq_app, Nat.reduceMul, Nat.reduceLeDiff, Nat.reduceEqDiff, Nat.reduceLT, Nat.reduceAdd, Nat.reduceSub, ↓reduceIte, implies_true, reduceCtorEq, ne_eq, ↓shr_eq, IntKind.bits, Int.reduceToNat, Int.reducePow, dite_eq_ite, Value.oneCell', Nat.reduceBEq, Nat.reduceDiv, bnS, bnN, bnT, spB, vl_dg, W32_dg, unW_wds, wV, sdf, wds_nil, RLc, RLcf]
    refine ⟨fun h => ⟨by constructor <;> omega, ?_⟩, fun h => ⟨by omega, h2, ?_⟩⟩
    · have h4 : 4 * o.length < b.length := by have h := of_decide_eq_true h; omega
      have hj := ub_join h4
      generalize hlo : (b.length : Int) - 4 * o.length - 4 = lo at hj ⊢
      have hl4 := ub_lt b lo 4
      refine LoopC.intro (α := Nat) (fun k => k ≤ 4) (fun k => ⟨[(0, .by b), (3, .ro (.r r)), (4, .i ((b.length : Int) - 4 * o.length)), (5, .val (.int .u32 ((ub b lo k : Nat) : Int))), (6, .i (lo + k))], [(r, .row 69 (wV o))], r + 1⟩) (fun k => 4 - k) 0 (Nat.zero_le _) ?_ ?_
      · simp only [bnC, Kseq_app, Nat.reduceMul, Nat.reduceLeDiff, Nat.reduceEqDiff, Nat.reduceLT, Nat.reduceAdd, Nat.reduceSub, ↓reduceIte, implies_true, reduceCtorEq, ne_eq, ↓shr_eq, IntKind.bits, Int.reduceToNat, Int.reducePow, dite_eq_ite, Value.oneCell', Nat.reduceBEq, Nat.reduceDiv, bnS, bnN, bnT, spB, vl_dg, W32_dg, unW_wds, wV, sdf, wds_nil, ub_zero]
        exact ⟨⟨rfl, by omega⟩, Nat.le_refl _⟩
      · intro k h5
        simp only [bnC, Kseq_app, Nat.reduceMul, Nat.reduceLeDiff, Nat.reduceEqDiff, Nat.reduceLT, Nat.reduceAdd, Nat.reduceSub, ↓reduceIte, implies_true, reduceCtorEq, ne_eq, ↓shr_eq, IntKind.bits, Int.reduceToNat, Int.reducePow, dite_eq_ite, Value.oneCell', Nat.reduceBEq, Nat.reduceDiv, bnS, bnN, bnT, spB, vl_dg, W32_dg, unW_wds, wV, sdf, wds_nil, RLc, RLcf]
        refine ⟨fun h6 => ⟨fun h7 => ?_, fun h7 => ?_⟩, fun h6 => ?_⟩
        · have h6 : k < 4 := by have h6 := of_decide_eq_true h6; omega
          have h7 := of_decide_eq_true h7
          have h8 := ub_lt b lo k
          have h9 : (256 : Nat) ^ k ≤ 16777216 := Nat.le_trans (Nat.pow_le_pow_right (by omega) (show k ≤ 3 by omega)) (by decide)
          have h10 := ub_step h7 (show lo + k < b.length by omega)
          have h11 := (b.getD (lo + k).toNat 0).toNat_lt
          refine ⟨by omega, by omega, by constructor <;> omega, Again.intro (k + 1) (by omega) (by omega) ?_⟩
          simp only [bnC, Kseq_app, Nat.reduceMul, Nat.reduceLeDiff, Nat.reduceEqDiff, Nat.reduceLT, Nat.reduceAdd, Nat.reduceSub, ↓reduceIte, implies_true, reduceCtorEq, ne_eq, ↓shr_eq, IntKind.bits, Int.reduceToNat, Int.reducePow, dite_eq_ite, Value.oneCell', Nat.reduceBEq, Nat.reduceDiv, bnS, bnN, bnT, spB, vl_dg, W32_dg, unW_wds, wV, sdf, wds_nil, h10]
          have e : byteAt b (lo + k).toNat = (((b.getD (lo + k).toNat 0).toNat : Nat) : Int) := rfl
          rw [e, wr32, wr32, wr32]
          exact ⟨⟨by omega, by omega⟩, Nat.le_refl _⟩
        · have h6 : k < 4 := by have h6 := of_decide_eq_true h6; omega
          have h7 := of_decide_eq_false h7
          have h10 := ub_neg (b := b) (show lo + k < 0 by omega)
          have h11 : ub b lo k = 0 := by
            rcases Nat.eq_zero_or_pos k with rfl | hk
            · exact ub_zero b lo
            · obtain ⟨j, rfl⟩ : ∃ j, k = j + 1 := ⟨k - 1, by omega⟩
              exact ub_neg (by omega)
          refine ⟨by constructor <;> omega, Again.intro (k + 1) (by omega) (by omega) ?_⟩
          simp only [bnC, Kseq_app, Nat.reduceMul, Nat.reduceLeDiff, Nat.reduceEqDiff, Nat.reduceLT, Nat.reduceAdd, Nat.reduceSub, ↓reduceIte, implies_true, reduceCtorEq, ne_eq, ↓shr_eq, IntKind.bits, Int.reduceToNat, Int.reducePow, dite_eq_ite, Value.oneCell', Nat.reduceBEq, Nat.reduceDiv, bnS, bnN, bnT, spB, vl_dg, W32_dg, unW_wds, wV, sdf, wds_nil, h10, h11]
          rw [wr32]
          exact ⟨⟨by omega, by omega⟩, Nat.le_refl _⟩
        · have h6 : k = 4 := by have h6 := of_decide_eq_false h6; omega
          subst h6
          refine ⟨by rw [List.length_append]; simp only [List.length_singleton]; omega, by constructor <;> omega, Again.intro (o ++ [ub b lo 4], r + 2) ⟨by rw [List.length_append]; simp only [List.length_singleton]; omega, h2.app (W32.one (by omega)), ?_⟩ (by simp only [List.length_append, List.length_singleton]; omega) ?_⟩
          · simp only [vl_snoc, List.length_append, List.length_singleton]
            rw [show b.length - 4 * (o.length + 1) = lo.toNat by omega, hj, h3]
            rw [Nat.mul_comm (4294967296 ^ o.length)]; omega
          · simp only [bnC, Kseq_app, Nat.reduceMul, Nat.reduceLeDiff, Nat.reduceEqDiff, Nat.reduceLT, Nat.reduceAdd, Nat.reduceSub, ↓reduceIte, implies_true, reduceCtorEq, ne_eq, ↓shr_eq, IntKind.bits, Int.reduceToNat, Int.reducePow, dite_eq_ite, Value.oneCell', Nat.reduceBEq, Nat.reduceDiv, bnS, bnN, bnT, spB, vl_dg, W32_dg, unW_wds, wV, sdf, wds_nil, List.length_append, List.length_singleton]
            exact ⟨by omega, Nat.le_refl _⟩
    · rw [h3]
      have h := of_decide_eq_false h
      rw [show b.length - 4 * o.length = 0 by omega, List.drop_zero]
end Go.Proofs.YtmpklnhmempmgaaGreatDoor
