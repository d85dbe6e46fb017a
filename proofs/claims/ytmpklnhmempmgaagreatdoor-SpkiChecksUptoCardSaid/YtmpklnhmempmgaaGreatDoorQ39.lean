/- The reference's curves: numbers out of letters. The reference's numbers modulo another one. -/
import Derived.Test.YtmpklnhmempmgaaGreatDoorQ38
namespace Go.Proofs.YtmpklnhmempmgaaGreatDoor
open Go.RowKit
set_option linter.unusedSimpArgs false
set_option maxRecDepth 100000
def RNaf : FuncId → List V → Option (List Prop × Bool × V) := fun f args =>
  if f = 123 then match args with
    | [.val (.int .u8 c)] => some ([(48 ≤ c ∧ c ≤ 57) ∨ (97 ≤ c ∧ c ≤ 102)], false, .val (.int .u32 ((hd c.toNat : Nat) : Int)))
    | _ => none
  else none
def RNa (J : Inv) : Sig := ⟨J, sdf, RNaf, noH, 0⟩
theorem RNa_ok (J : Inv) : SigOk Tryz.prog (RNa J) := by
  refine .plain fun f args l fr r h hl => ?_
  change RNaf f args = some (l, fr, r) at h
  unfold RNaf at h
  split at h
  · rename_i hf; subst hf
    split at h
    · rename_i c
      obtain ⟨rfl, rfl, rfl⟩ := jsome_tri h
      obtain ⟨c0, -⟩ := hl.un
      have hp := (by have h := digit11_fn J c.toNat (by omega); rwa [Int.toNat_of_nonneg (show 0 ≤ c by omega)] at h)
      exact hp
    · exact absurd h (by simp)
  · exact absurd h (by simp)
theorem number11_fn (J : Inv) (s : List UInt8) (n : Nat) (hs : s.length = 8 * n) (hn : n ≤ 100) (hx : HexOk s) : Fn Tryz.prog J 106 false [.str s] (wV (fw n (hexN s))) := by
  refine fn_intro Tryz.func106 rfl (by kernel_rfl) (Nat.le_of_ble_eq_true (by kernel_rfl)) (by kernel_rfl) (by kernel_rfl) (wV_cl _) (RNa_ok J) ?_
  unfold Tryz.f106
  simp only [bnC, Kseq_app, Nat.reduceMul, Nat.reduceLeDiff, Nat.reduceEqDiff, Nat.reduceLT, Nat.reduceAdd, Nat.reduceSub, ↓reduceIte, implies_true, reduceCtorEq, ne_eq, ↓shr_eq, IntKind.bits, Int.reduceToNat, Int.reducePow, dite_eq_ite, Value.oneCell', Nat.reduceBEq, Nat.reduceDiv, bnS, bnN, bnT, spB, vl_dg, W32_dg, unW_wds, wV, sdf, wds_nil, RNa, RNaf, hs]
  refine LoopC.introA (α := List Nat × Nat) (fun y => y.1.length ≤ n ∧ W32 y.1 ∧ vl y.1 = hexN (s.drop (8 * n - 8 * y.1.length))) (fun y => ⟨[(0, .str s), (3, .ro (.r y.2)), (4, .i ((8 * n : Nat) - 8 * y.1.length))], [(y.2, .row 69 (wV y.1))], y.2 + 1⟩) (fun y => n - y.1.length) ([], 0) [.sl 3 69 (wV [])] ⟨Nat.zero_le _, W32.nil, ?_⟩ ?_ ?_
  · simp only [List.length_nil]
    rw [show 8 * n - 8 * 0 = s.length by omega, List.drop_length]; rfl
  · simp only [bnC, Kseq_app, Nat.reduceMul, Nat.reduceLeDiff, Nat.reduceEqDiff, Nat.reduceLT, Nat.reduceAdd, Nat.reduceSub, ↓reduceIte, implies_true, reduceCtorEq, ne_eq, ↓shr_eq, IntKind.bits, Int.reduceToNat, Int.reducePow, dite_eq_ite, Value.oneCell', Nat.reduceBEq, Nat.reduceDiv, bnS, bnN, bnT, spB, vl_dg, W32_dg, unW_wds, wV, sdf, wds_nil, List.length_nil]
    omega
  · rintro ⟨o, r⟩ ⟨h1, h2, h3⟩
    simp only at h1 h2 h3
    simp only [bnC, Kseq_app, Nat.reduceMul, Nat.reduceLeDiff, Nat.reduceEqDiff, Nat.reduceLT, Nat.reduceAdd, Nat.reduceSub, ↓reduceIte, implies_true, reduceCtorEq, ne_eq, ↓shr_eq, IntKind.bits, Int.reduceToNat, Int.reducePow, dite_eq_ite, Value.oneCell', Nat.reduceBEq, Nat.reduceDiv, bnS, bnN, bnT, spB, vl_dg, W32_dg, unW_wds, wV, sdf, wds_nil, RNa, RNaf, hs]
    refine ⟨fun h => ⟨by constructor <;> omega, ?_⟩, fun h => ?_⟩
    · have h4 : o.length < n := by have h := of_decide_eq_true h; omega
      have hj := uh_join hs h4
      have hlo : ((8 * n : Nat) : Int) - 8 * o.length - 8 = ((8 * n - 8 * o.length - 8 : Nat) : Int) := by omega
      rw [hlo]
      obtain ⟨lo, hld⟩ : ∃ lo, lo = 8 * n - 8 * o.length - 8 := ⟨_, rfl⟩
      rw [← hld] at hj ⊢
      have hlt : lo + 8 ≤ 8 * n := by omega
      have hfin : lo + 8 = 8 * n - 8 * o.length := by omega
      have hl2 : 8 * n - 8 * (o.length + 1) = lo := by omega
      clear hlo
      refine LoopC.intro (α := Nat) (fun k => k ≤ 8) (fun k => ⟨[(0, .str s), (3, .ro (.r r)), (4, .i ((8 * n : Nat) - 8 * o.length)), (5, .val (.int .u32 ((uh s lo k : Nat) : Int))), (6, .i ((lo + k : Nat) : Int))], [(r, .row 69 (wV o))], r + 1⟩) (fun k => 8 - k) 0 (Nat.zero_le _) ?_ ?_
      · simp only [bnC, Kseq_app, Nat.reduceMul, Nat.reduceLeDiff, Nat.reduceEqDiff, Nat.reduceLT, Nat.reduceAdd, Nat.reduceSub, ↓reduceIte, implies_true, reduceCtorEq, ne_eq, ↓shr_eq, IntKind.bits, Int.reduceToNat, Int.reducePow, dite_eq_ite, Value.oneCell', Nat.reduceBEq, Nat.reduceDiv, bnS, bnN, bnT, spB, vl_dg, W32_dg, unW_wds, wV, sdf, wds_nil, uh_zero]
        omega
      · intro k h5
        simp only [bnC, Kseq_app, Nat.reduceMul, Nat.reduceLeDiff, Nat.reduceEqDiff, Nat.reduceLT, Nat.reduceAdd, Nat.reduceSub, ↓reduceIte, implies_true, reduceCtorEq, ne_eq, ↓shr_eq, IntKind.bits, Int.reduceToNat, Int.reducePow, dite_eq_ite, Value.oneCell', Nat.reduceBEq, Nat.reduceDiv, bnS, bnN, bnT, spB, vl_dg, W32_dg, unW_wds, wV, sdf, wds_nil, RNa, RNaf, hs]
        refine ⟨fun h6 => ?_, fun h6 => ?_⟩
        · have h6 : k < 8 := by have h6 := of_decide_eq_true h6; omega
          have h8 := uh_lt hx lo k
          have h9 : (16 : Nat) ^ k ≤ 268435456 := Nat.le_trans (Nat.pow_le_pow_right (by omega) (show k ≤ 7 by omega)) (by decide)
          have h10 := uh_step (s := s) (lo := lo) (k := k) (by omega)
          have hg := hx.get (i := lo + k) (by omega)
          have h12 : hd (s.getD (lo + k) 0).toNat < 16 := by unfold hd; split <;> omega
          have e : byteAt s (lo + k) = (((s.getD (lo + k) 0).toNat : Nat) : Int) := rfl
          have et : ((lo : Int) + k).toNat = lo + k := by omega
          simp only [et, e]
          rw [Int.toNat_natCast] at *
          generalize (s.getD (lo + k) 0).toNat = b at *
          refine ⟨by omega, by omega, by omega, by constructor <;> omega, Again.intro (k + 1) (by omega) (by omega) ?_⟩
          simp only [bnC, Kseq_app, Nat.reduceMul, Nat.reduceLeDiff, Nat.reduceEqDiff, Nat.reduceLT, Nat.reduceAdd, Nat.reduceSub, ↓reduceIte, implies_true, reduceCtorEq, ne_eq, ↓shr_eq, IntKind.bits, Int.reduceToNat, Int.reducePow, dite_eq_ite, Value.oneCell', Nat.reduceBEq, Nat.reduceDiv, bnS, bnN, bnT, spB, vl_dg, W32_dg, unW_wds, wV, sdf, wds_nil, h10]
          rw [wr32, wr32]
          exact ⟨⟨by omega, by omega⟩, Nat.le_refl _⟩
        · have h6 : k = 8 := by have h6 := of_decide_eq_false h6; omega
          subst h6
          have hl8 : uh s lo 8 < 4294967296 := uh_lt hx lo 8
          have lo1 : (o ++ [uh s lo 8]).length = o.length + 1 := by simp
          have hrow : vl (o ++ [uh s lo 8]) = hexN (s.drop (8 * n - 8 * (o ++ [uh s lo 8]).length)) := by
            rw [vl_snoc, lo1, hl2, hj, h3, Nat.mul_comm (4294967296 ^ o.length)]; omega
          refine ⟨by rw [lo1]; omega, by constructor <;> omega, Again.intro (o ++ [uh s lo 8], r + 2) ⟨by rw [lo1]; omega, h2.app (W32.one (by omega)), hrow⟩ (by simp only [lo1]; omega) ?_⟩
          simp only [bnC, Kseq_app, Nat.reduceMul, Nat.reduceLeDiff, Nat.reduceEqDiff, Nat.reduceLT, Nat.reduceAdd, Nat.reduceSub, ↓reduceIte, implies_true, reduceCtorEq, ne_eq, ↓shr_eq, IntKind.bits, Int.reduceToNat, Int.reducePow, dite_eq_ite, Value.oneCell', Nat.reduceBEq, Nat.reduceDiv, bnS, bnN, bnT, spB, vl_dg, W32_dg, unW_wds, wV, sdf, wds_nil, lo1]
          exact ⟨by omega, Nat.le_refl _⟩
    · have h := of_decide_eq_false h
      have hol : o.length = n := by omega
      have hw := fw_of (o := o) (hexN s) h2
      rw [hol] at hw h3
      rw [show 8 * n - 8 * n = 0 by omega, List.drop_zero] at h3
      have hlt := hexN_lt hx
      rw [hs, Nat.pow_mul, show (16 : Nat) ^ 8 = 4294967296 by decide] at hlt
      rw [hw (by rw [h3, Nat.mod_eq_of_lt hlt])]
def crvP (c : Int) : Nat := if c = 1 then hexN hp256 else hexN hp384
def crvB (c : Int) : Nat := if c = 1 then hexN hb256 else hexN hb384
def RNbf : FuncId → List V → Option (List Prop × Bool × V) := fun f args =>
  if f = 106 then match args with
    | [.str t] => some ([t.length = 8 * (t.length / 8), t.length ≤ 800, hexB t = true], false, wV (fw (t.length / 8) (hexN t)))
    | _ => none
  else none
def RNb (J : Inv) : Sig := ⟨J, sdf, RNbf, noH, 0⟩
theorem RNb_ok (J : Inv) : SigOk Tryz.prog (RNb J) := by
  refine .plain fun f args l fr r h hl => ?_
  change RNbf f args = some (l, fr, r) at h
  unfold RNbf at h
  split at h
  · rename_i hf; subst hf
    split at h
    · rename_i t
      obtain ⟨rfl, rfl, rfl⟩ := jsome_tri h
      obtain ⟨c0, c1, c2, -⟩ := hl.un
      have hp := number11_fn J t (t.length / 8) c0 (by omega) (hexB_ok c2)
      exact hp
    · exact absurd h (by simp)
  · exact absurd h (by simp)
theorem fw_p256 : fw 8 (hexN hp256) = dg (hexN hp256) := fw_dg (Nat.le_of_ble_eq_true (by kernel_rfl)) (.inr (Nat.le_of_ble_eq_true (by kernel_rfl)))
theorem fw_b256 : fw 8 (hexN hb256) = dg (hexN hb256) := fw_dg (Nat.le_of_ble_eq_true (by kernel_rfl)) (.inr (Nat.le_of_ble_eq_true (by kernel_rfl)))
theorem fw_p384 : fw 12 (hexN hp384) = dg (hexN hp384) := fw_dg (Nat.le_of_ble_eq_true (by kernel_rfl)) (.inr (Nat.le_of_ble_eq_true (by kernel_rfl)))
theorem fw_b384 : fw 12 (hexN hb384) = dg (hexN hb384) := fw_dg (Nat.le_of_ble_eq_true (by kernel_rfl)) (.inr (Nat.le_of_ble_eq_true (by kernel_rfl)))
theorem field1_fn (J : Inv) : Fn Tryz.prog J 81 false [.i 1] (wV (dg (hexN hp256))) := by
  rw [← fw_p256]
  refine fn_intro Tryz.func81 rfl (by kernel_rfl) (Nat.le_of_ble_eq_true (by kernel_rfl)) (by kernel_rfl) (by kernel_rfl) (wV_cl _) (RNb_ok J) ?_
  unfold Tryz.f81
  simp only [↓Br_t, ↓Br_f, ↓Brg_t, ↓Brg_f, bnC, Kseq_app, Nat.reduceMul, Nat.reduceLeDiff, Nat.reduceEqDiff, Nat.reduceLT, Nat.reduceAdd, Nat.reduceSub, ↓reduceIte, implies_true, reduceCtorEq, ne_eq, ↓shr_eq, IntKind.bits, Int.reduceToNat, Int.reducePow, dite_eq_ite, Value.oneCell', Nat.reduceBEq, Nat.reduceDiv, bnS, bnN, bnT, spB, vl_dg, W32_dg, unW_wds, wV, sdf, wds_nil, RNb, RNbf, two_one, show ((1 : Int) == 1) = true from rfl]
  exact ⟨by kernel_rfl, rfl⟩
theorem field2_fn (J : Inv) : Fn Tryz.prog J 81 false [.i 2] (wV (dg (hexN hp384))) := by
  rw [← fw_p384]
  refine fn_intro Tryz.func81 rfl (by kernel_rfl) (Nat.le_of_ble_eq_true (by kernel_rfl)) (by kernel_rfl) (by kernel_rfl) (wV_cl _) (RNb_ok J) ?_
  unfold Tryz.f81
  simp only [↓Br_t, ↓Br_f, ↓Brg_t, ↓Brg_f, bnC, Kseq_app, Nat.reduceMul, Nat.reduceLeDiff, Nat.reduceEqDiff, Nat.reduceLT, Nat.reduceAdd, Nat.reduceSub, ↓reduceIte, implies_true, reduceCtorEq, ne_eq, ↓shr_eq, IntKind.bits, Int.reduceToNat, Int.reducePow, dite_eq_ite, Value.oneCell', Nat.reduceBEq, Nat.reduceDiv, bnS, bnN, bnT, spB, vl_dg, W32_dg, unW_wds, wV, sdf, wds_nil, RNb, RNbf, two_one, show ((1 : Int) == 1) = true from rfl, List.append_eq]
  exact ⟨by kernel_rfl, rfl⟩
theorem b1_fn (J : Inv) : Fn Tryz.prog J 85 false [.i 1] (wV (dg (hexN hb256))) := by
  rw [← fw_b256]
  refine fn_intro Tryz.func85 rfl (by kernel_rfl) (Nat.le_of_ble_eq_true (by kernel_rfl)) (by kernel_rfl) (by kernel_rfl) (wV_cl _) (RNb_ok J) ?_
  unfold Tryz.f85
  simp only [↓Br_t, ↓Br_f, ↓Brg_t, ↓Brg_f, bnC, Kseq_app, Nat.reduceMul, Nat.reduceLeDiff, Nat.reduceEqDiff, Nat.reduceLT, Nat.reduceAdd, Nat.reduceSub, ↓reduceIte, implies_true, reduceCtorEq, ne_eq, ↓shr_eq, IntKind.bits, Int.reduceToNat, Int.reducePow, dite_eq_ite, Value.oneCell', Nat.reduceBEq, Nat.reduceDiv, bnS, bnN, bnT, spB, vl_dg, W32_dg, unW_wds, wV, sdf, wds_nil, RNb, RNbf, two_one, show ((1 : Int) == 1) = true from rfl]
  exact ⟨by kernel_rfl, rfl⟩
theorem b2_fn (J : Inv) : Fn Tryz.prog J 85 false [.i 2] (wV (dg (hexN hb384))) := by
  rw [← fw_b384]
  refine fn_intro Tryz.func85 rfl (by kernel_rfl) (Nat.le_of_ble_eq_true (by kernel_rfl)) (by kernel_rfl) (by kernel_rfl) (wV_cl _) (RNb_ok J) ?_
  unfold Tryz.f85
  simp only [↓Br_t, ↓Br_f, ↓Brg_t, ↓Brg_f, bnC, Kseq_app, Nat.reduceMul, Nat.reduceLeDiff, Nat.reduceEqDiff, Nat.reduceLT, Nat.reduceAdd, Nat.reduceSub, ↓reduceIte, implies_true, reduceCtorEq, ne_eq, ↓shr_eq, IntKind.bits, Int.reduceToNat, Int.reducePow, dite_eq_ite, Value.oneCell', Nat.reduceBEq, Nat.reduceDiv, bnS, bnN, bnT, spB, vl_dg, W32_dg, unW_wds, wV, sdf, wds_nil, RNb, RNbf, two_one, show ((1 : Int) == 1) = true from rfl, List.append_eq]
  exact ⟨by kernel_rfl, rfl⟩
def crvS (c : Int) : Int := if c = 1 then 32 else if c = 2 then 48 else 0
theorem size11_fn (J : Inv) (c : Int) : Fn Tryz.prog J 34 false [.val (.int .i64 c)] (.val (.int .i64 (crvS c))) := by
  refine fn_intro Tryz.func34 rfl (by kernel_rfl) (Nat.le_of_ble_eq_true (by kernel_rfl)) (by kernel_rfl) (by kernel_rfl) rfl (RNb_ok J) ?_
  unfold Tryz.f34
  unfold crvS
  by_cases h1 : c = 1
  · subst h1
    simp only [↓Br_t, ↓Br_f, ↓Brg_t, ↓Brg_f, bnC, Kseq_app, Nat.reduceMul, Nat.reduceLeDiff, Nat.reduceEqDiff, Nat.reduceLT, Nat.reduceAdd, Nat.reduceSub, ↓reduceIte, implies_true, reduceCtorEq, ne_eq, ↓shr_eq, IntKind.bits, Int.reduceToNat, Int.reducePow, dite_eq_ite, Value.oneCell', Nat.reduceBEq, Nat.reduceDiv, bnS, bnN, bnT, spB, vl_dg, W32_dg, unW_wds, wV, sdf, wds_nil, RNb, RNbf, two_one, show ((1 : Int) == 1) = true from rfl]
    skip
  · have e1 : (c == 1) = false := by rw [beq_eq_false_iff_ne]; exact h1
    rw [if_neg h1]
    by_cases h2 : c = 2
    · subst h2
      simp only [↓Br_t, ↓Br_f, ↓Brg_t, ↓Brg_f, bnC, Kseq_app, Nat.reduceMul, Nat.reduceLeDiff, Nat.reduceEqDiff, Nat.reduceLT, Nat.reduceAdd, Nat.reduceSub, ↓reduceIte, implies_true, reduceCtorEq, ne_eq, ↓shr_eq, IntKind.bits, Int.reduceToNat, Int.reducePow, dite_eq_ite, Value.oneCell', Nat.reduceBEq, Nat.reduceDiv, bnS, bnN, bnT, spB, vl_dg, W32_dg, unW_wds, wV, sdf, wds_nil, RNb, RNbf, two_one, show ((1 : Int) == 1) = true from rfl]
      skip
    · have e2 : (c == 2) = false := by rw [beq_eq_false_iff_ne]; exact h2
      rw [if_neg h2]
      simp only [↓Br_t, ↓Br_f, ↓Brg_t, ↓Brg_f, bnC, Kseq_app, Nat.reduceMul, Nat.reduceLeDiff, Nat.reduceEqDiff, Nat.reduceLT, Nat.reduceAdd, Nat.reduceSub, ↓reduceIte, implies_true, reduceCtorEq, ne_eq, ↓shr_eq, IntKind.bits, Int.reduceToNat, Int.reducePow, dite_eq_ite, Value.oneCell', Nat.reduceBEq, Nat.reduceDiv, bnS, bnN, bnT, spB, vl_dg, W32_dg, unW_wds, wV, sdf, wds_nil, RNb, RNbf, e1, e2]
theorem crv_field_fn (J : Inv) (c : Int) (h : c = 1 ∨ c = 2) : Fn Tryz.prog J 81 false [.i c] (wV (dg (crvP c))) := by
  rcases h with rfl | rfl
  · exact field1_fn J
  · exact field2_fn J
theorem crv_b_fn (J : Inv) (c : Int) (h : c = 1 ∨ c = 2) : Fn Tryz.prog J 85 false [.i c] (wV (dg (crvB c))) := by
  rcases h with rfl | rfl
  · exact b1_fn J
  · exact b2_fn J
/-- A number of at most 128 words. -/
structure S7 (a : List Nat) : Prop where
  l : a.length ≤ 128
  w : W32 a
theorem S7.n {a : List Nat} (h : S7 a) : (dg (vl a)).length ≤ 128 := by
  have h1 := trim_len a
  rw [trim_dg h.w] at h1
  have := h.l
  omega
theorem S7.dg {n : Nat} (h : (dg n).length ≤ 128) : S7 (dg n) := ⟨h, W32_dg n⟩
theorem S7.lt {n p : Nat} (h : n < p) (hp : (Go.Proofs.YtmpklnhmempmgaaGreatDoor.dg p).length ≤ 128) : S7 (Go.Proofs.YtmpklnhmempmgaaGreatDoor.dg n) := .dg (Nat.le_trans (dg_mono (Nat.le_of_lt h)) hp)
theorem S7.one (x : Nat) (h : x < 4294967296) : S7 [x] := ⟨by simp, W32.one h⟩
def RCzf : FuncId → List V → Option (List Prop × Bool × V) := fun f args =>
  if f = 134 then match args with
    | [] => some ([], false, wV [1])
    | _ => none
  else RLef f args
def RCz (J : Inv) : Sig := ⟨J, sdf, RCzf, noH, 0⟩
theorem RCz_ok (J : Inv) : SigOk Tryz.prog (RCz J) := by
  refine .plain fun f args l fr r h hl => ?_
  change RCzf f args = some (l, fr, r) at h
  unfold RCzf at h
  split at h
  · rename_i hf; subst hf
    split at h
    · obtain ⟨rfl, rfl, rfl⟩ := jsome_tri h
      have hp := one7_fn J
      exact hp
    · exact absurd h (by simp)
  · exact (RLe_ok J ).1 f args l fr r h hl
theorem wrong7_fn (J : Inv) (m : List Nat) (l : List (List Nat)) (hm : S7 m) (h2 : 2 ≤ vl m) (hl : ∀ a ∈ l, S7 a) (hn : l.length ≤ 1000) : Fn Tryz.prog J 124 false [wV m, .sq 1 (wV []) (l.map wV)] (.i 0) := by
  refine fn_intro Tryz.func124 rfl (by kernel_rfl) (Nat.le_of_ble_eq_true (by kernel_rfl)) (by kernel_rfl) (by kernel_rfl) rfl (RCz_ok J) ?_
  unfold Tryz.f124
  simp only [bnC, Kseq_app, Nat.reduceMul, Nat.reduceLeDiff, Nat.reduceEqDiff, Nat.reduceLT, Nat.reduceAdd, Nat.reduceSub, ↓reduceIte, implies_true, reduceCtorEq, ne_eq, ↓shr_eq, IntKind.bits, Int.reduceToNat, Int.reducePow, dite_eq_ite, Value.oneCell', Nat.reduceBEq, Nat.reduceDiv, bnS, bnN, bnT, spB, RCz, RCzf, RLef, RLdf, sdf, wV, unW_wds]
  refine LoopC.intro (α := Nat) (fun k => k ≤ l.length) (fun k => ⟨[(0, wV m), (1, .sq 1 (wV []) (l.map wV)), (5, .i k)], [], 0⟩) (fun k => l.length - k) 0 (Nat.zero_le _) ?_ ?_
  · simp only [bnC, Kseq_app, Nat.reduceMul, Nat.reduceLeDiff, Nat.reduceEqDiff, Nat.reduceLT, Nat.reduceAdd, Nat.reduceSub, ↓reduceIte, implies_true, reduceCtorEq, ne_eq, ↓shr_eq, IntKind.bits, Int.reduceToNat, Int.reducePow, dite_eq_ite, Value.oneCell', Nat.reduceBEq, Nat.reduceDiv, bnS, bnN, bnT, spB, wV, wds_nil]
    trivial
  · intro k hk
    simp only [bnC, Kseq_app, Nat.reduceMul, Nat.reduceLeDiff, Nat.reduceEqDiff, Nat.reduceLT, Nat.reduceAdd, Nat.reduceSub, ↓reduceIte, implies_true, reduceCtorEq, ne_eq, ↓shr_eq, IntKind.bits, Int.reduceToNat, Int.reducePow, dite_eq_ite, Value.oneCell', Nat.reduceBEq, Nat.reduceDiv, bnS, bnN, bnT, spB, RCz, RCzf, RLef, RLdf, sdf, wV, unW_wds, wds_nil, wVs_get]
    refine ⟨fun hb => ?_, fun hb => ?_⟩
    · have hk2 : k < l.length := by simpa using hb
      have hm : l.getD k [] ∈ l := by
        rw [List.getD_eq_getElem?_getD, List.getElem?_eq_getElem hk2]
        exact List.getElem_mem hk2
      have q := hl _ hm
      have q1 := q.l
      have q2 := q.n
      have q3 := q.w
      repeat (with_reducible refine And.intro ?_ ?_; · first | omega | assumption)
      refine ⟨fun h => absurd h (by rw [decide_eq_true_eq]; omega), fun _ => ⟨by constructor <;> omega, Again.intro (k + 1) hk2 (by show l.length - (k + 1) < l.length - k; omega) ?_⟩⟩
      simp only [bnC, Kseq_app, Nat.reduceMul, Nat.reduceLeDiff, Nat.reduceEqDiff, Nat.reduceLT, Nat.reduceAdd, Nat.reduceSub, ↓reduceIte, implies_true, reduceCtorEq, ne_eq, ↓shr_eq, IntKind.bits, Int.reduceToNat, Int.reducePow, dite_eq_ite, Value.oneCell', Nat.reduceBEq, Nat.reduceDiv, bnS, bnN, bnT, spB, wV, wds_nil]
      omega
    · have q1 := hm.l
      have q2 := hm.n
      have h3 : cmp3 (vl m) (vl [1]) = 1 := cmp3_gt (by rw [vl_one]; omega)
      have q3 := hm.w
      refine ⟨by omega, hm.w, fun h => absurd h (by rw [decide_eq_true_eq]; omega), fun _ => ?_⟩
      rw [h3]
      refine ⟨by omega, q3, W32.one (by omega), fun h => absurd h (by simp), fun _ => trivial⟩
def RCwf : FuncId → List V → Option (List Prop × Bool × V) := fun f args =>
  if f = 124 then match args with
    | [.sq 1 dm Lm, .sq 1 d L] => some ([dm = .val (.int .u32 0), Lm = wds (unW Lm), d = .sq 1 (.val (.int .u32 0)) [], L = (unL L).map wV, S7 (unW Lm), 2 ≤ vl (unW Lm), ∀ a ∈ unL L, S7 a, (unL L).length ≤ 1000], false, .i 0)
    | _ => none
  else none
def RCw (J : Inv) : Sig := ⟨J, sdf, RCwf, noH, 0⟩
theorem RCw_ok (J : Inv) : SigOk Tryz.prog (RCw J) := by
  refine .plain fun f args l fr r h hl => ?_
  change RCwf f args = some (l, fr, r) at h
  unfold RCwf at h
  split at h
  · rename_i hf; subst hf
    split at h
    · obtain ⟨rfl, rfl, rfl⟩ := jsome_tri h
      rename_i dm Lm d L
      have q1 : dm = .val (.int .u32 0) := hl _ (by simp)
      have q2 : Lm = wds (unW Lm) := hl _ (by simp)
      have q3 : d = .sq 1 (.val (.int .u32 0)) [] := hl _ (by simp)
      have q4 : L = (unL L).map wV := hl _ (by simp)
      subst q1 q3
      have hp := wrong7_fn J (unW Lm) (unL L) (hl _ (by simp)) (hl _ (by simp)) (hl _ (by simp)) (hl _ (by simp))
      rw [← q4, show wV (unW Lm) = .sq 1 (.val (.int .u32 0)) Lm by unfold wV; rw [← q2]] at hp
      exact hp
    · exact absurd h (by simp)
  · exact absurd h (by simp)
def RCaf : FuncId → List V → Option (List Prop × Bool × V) := fun f args =>
  if f = 45 then match args with
    | [.sq 1 da La, .sq 1 dd Ld] => some ([da = .val (.int .u32 0), La = wds (unW La), dd = .val (.int .u32 0), Ld = wds (unW Ld), (unW La).length ≤ 1048576, (unW Ld).length ≤ 1048576, W32 (unW La), W32 (unW Ld), vl (unW Ld) ≠ 0], false, .tu [wV (dg (vl (unW La) / vl (unW Ld))), wV (dg (vl (unW La) % vl (unW Ld)))])
    | _ => none
  else RCwf f args
def RCa (J : Inv) : Sig := ⟨J, sdf, RCaf, noH, 0⟩
theorem RCa_ok (J : Inv) : SigOk Tryz.prog (RCa J) := by
  refine .plain fun f args l fr r h hl => ?_
  change RCaf f args = some (l, fr, r) at h
  unfold RCaf at h
  split at h
  · rename_i hf; subst hf
    split at h
    · rename_i da La dd Ld
      obtain ⟨rfl, rfl, rfl⟩ := jsome_tri h
      obtain ⟨qda, qla, qdd, qld, c0, c1, c2, c3, c4, -⟩ := hl.un
      subst qda qdd
      have hp := divide7_fn J (unW La) (unW Ld) c0 c1 c2 c3 c4
      unfold wV at hp
      rw [← qla, ← qld] at hp
      exact hp
    · exact absurd h (by simp)
  · exact (RCw_ok J ).1 f args l fr r h hl
theorem rest7_fn (J : Inv) (a m : List Nat) (ha : a.length ≤ 1048576) (hm : m.length ≤ 1048576) (wa : W32 a) (wm : W32 m) (h0 : vl m ≠ 0) : Fn Tryz.prog J 125 false [wV a, wV m] (wV (dg (vl a % vl m))) := by
  refine fn_intro Tryz.func125 rfl (by kernel_rfl) (Nat.le_of_ble_eq_true (by kernel_rfl)) (by kernel_rfl) (by kernel_rfl) (wV_cl _) (RCa_ok J) ?_
  unfold Tryz.f125
  simp only [bnC, Kseq_app, Nat.reduceMul, Nat.reduceLeDiff, Nat.reduceEqDiff, Nat.reduceLT, Nat.reduceAdd, Nat.reduceSub, ↓reduceIte, implies_true, reduceCtorEq, ne_eq, ↓shr_eq, IntKind.bits, Int.reduceToNat, Int.reducePow, dite_eq_ite, Value.oneCell', Nat.reduceBEq, Nat.reduceDiv, bnS, bnN, bnT, spB, vl_dg, W32_dg, unW_wds, wV, sdf, wds_nil, RCa, RCaf, RCwf]
  exact ⟨ha, hm, wa, wm, h0⟩
def RCbf : FuncId → List V → Option (List Prop × Bool × V) := fun f args =>
  if f = 125 then match args with
    | [.sq 1 da La, .sq 1 dm Lm] => some ([da = .val (.int .u32 0), La = wds (unW La), dm = .val (.int .u32 0), Lm = wds (unW Lm), (unW La).length ≤ 1048576, (unW Lm).length ≤ 1048576, W32 (unW La), W32 (unW Lm), vl (unW Lm) ≠ 0], false, wV (dg (vl (unW La) % vl (unW Lm))))
    | _ => none
  else if f = 46 then match args with
    | [.sq 1 da La, .sq 1 db Lb] => some ([da = .val (.int .u32 0), La = wds (unW La), db = .val (.int .u32 0), Lb = wds (unW Lb), (unW La).length ≤ 1048576, (unW Lb).length ≤ 1048576, W32 (unW La), W32 (unW Lb)], false, wV (dg (vl (unW La) + vl (unW Lb))))
    | _ => none
  else if f = 89 then match args with
    | [.sq 1 da La, .sq 1 db Lb] => some ([da = .val (.int .u32 0), La = wds (unW La), db = .val (.int .u32 0), Lb = wds (unW Lb), (unW La).length ≤ 1048576, (unW Lb).length ≤ 1048576, W32 (unW La), W32 (unW Lb)], false, wV (dg (vl (unW La) * vl (unW Lb))))
    | _ => none
  else if f = 50 then match args with
    | [.sq 1 da La, .sq 1 db Lb] => some ([da = .val (.int .u32 0), La = wds (unW La), db = .val (.int .u32 0), Lb = wds (unW Lb), (unW La).length ≤ 1048576, (unW Lb).length ≤ (unW La).length, W32 (unW La), W32 (unW Lb), vl (unW Lb) ≤ vl (unW La)], false, wV (dg (vl (unW La) - vl (unW Lb))))
    | _ => none
  else RCaf f args
def RCb (J : Inv) : Sig := ⟨J, sdf, RCbf, noH, 0⟩
theorem RCb_ok (J : Inv) : SigOk Tryz.prog (RCb J) := by
  refine .plain fun f args l fr r h hl => ?_
  change RCbf f args = some (l, fr, r) at h
  unfold RCbf at h
  split at h
  · rename_i hf; subst hf
    split at h
    · rename_i da La dm Lm
      obtain ⟨rfl, rfl, rfl⟩ := jsome_tri h
      obtain ⟨qda, qla, qdm, qlm, c0, c1, c2, c3, c4, -⟩ := hl.un
      subst qda qdm
      have hp := rest7_fn J (unW La) (unW Lm) c0 c1 c2 c3 c4
      unfold wV at hp
      rw [← qla, ← qlm] at hp
      exact hp
    · exact absurd h (by simp)
  · split at h
    · rename_i hf; subst hf
      split at h
      · rename_i da La db Lb
        obtain ⟨rfl, rfl, rfl⟩ := jsome_tri h
        obtain ⟨qda, qla, qdb, qlb, c0, c1, c2, c3, -⟩ := hl.un
        subst qda qdb
        have hp := plus7_fn J (unW La) (unW Lb) c0 c1 c2 c3
        unfold wV at hp
        rw [← qla, ← qlb] at hp
        exact hp
      · exact absurd h (by simp)
    · split at h
      · rename_i hf; subst hf
        split at h
        · rename_i da La db Lb
          obtain ⟨rfl, rfl, rfl⟩ := jsome_tri h
          obtain ⟨qda, qla, qdb, qlb, c0, c1, c2, c3, -⟩ := hl.un
          subst qda qdb
          have hp := times7_fn J (unW La) (unW Lb) c0 c1 c2 c3
          unfold wV at hp
          rw [← qla, ← qlb] at hp
          exact hp
        · exact absurd h (by simp)
      · split at h
        · rename_i hf; subst hf
          split at h
          · rename_i da La db Lb
            obtain ⟨rfl, rfl, rfl⟩ := jsome_tri h
            obtain ⟨qda, qla, qdb, qlb, c0, c1, c2, c3, c4, -⟩ := hl.un
            subst qda qdb
            have hp := minus7_fn J (unW La) (unW Lb) c0 c1 c2 c3 c4
            unfold wV at hp
            rw [← qla, ← qlb] at hp
            exact hp
          · exact absurd h (by simp)
        · exact (RCa_ok J ).1 f args l fr r h hl
theorem dg_sum7 {a b : Nat} {k : Nat} (ha : (dg a).length ≤ k) (hb : (dg b).length ≤ k) : (dg (a + b)).length ≤ k + 1 := dg_sum_len ha hb
section
variable (J : Inv) (a b m : List Nat) (ha : S7 a) (hb : S7 b) (hm : S7 m) (h2 : 2 ≤ vl m)
include ha hb hm h2
theorem add7_fn : Fn Tryz.prog J 107 false [wV a, wV b, wV m] (.tu [wV (dg ((vl a + vl b) % vl m)), .i 0]) := by
  refine fn_intro Tryz.func107 rfl (by kernel_rfl) (Nat.le_of_ble_eq_true (by kernel_rfl)) (by kernel_rfl) (by kernel_rfl) (by simp [V.cl, clL, wV, wds_cl, V.i]) (RCb_ok J) ?_
  unfold Tryz.f107
  simp only [bnC, Kseq_app, Nat.reduceMul, Nat.reduceLeDiff, Nat.reduceEqDiff, Nat.reduceLT, Nat.reduceAdd, Nat.reduceSub, ↓reduceIte, implies_true, reduceCtorEq, ne_eq, ↓shr_eq, IntKind.bits, Int.reduceToNat, Int.reducePow, dite_eq_ite, Value.oneCell', Nat.reduceBEq, Nat.reduceDiv, bnS, bnN, bnT, spB, vl_dg, W32_dg, unW_wds, wV, sdf, wds_nil, RCb, RCbf, RCaf, RCwf, unL, List.map_cons, List.map_nil, List.mem_cons, List.not_mem_nil, or_false]
  have := ha.l
  have := hb.l
  have := hm.l
  have hs := dg_sum7 ha.n hb.n
  have := ha.w
  have := hb.w
  have := hm.w
  refine ⟨hm, h2, fun x hx => by rcases hx with rfl | rfl <;> assumption, by simp, fun _ => ?_⟩
  repeat (with_reducible refine And.intro ?_ ?_; · first | omega | assumption)
  first | omega | assumption | rfl
theorem sub7_fn : Fn Tryz.prog J 108 false [wV a, wV b, wV m] (.tu [wV (dg (subM (vl a % vl m) (vl b % vl m) (vl m))), .i 0]) := by
  refine fn_intro Tryz.func108 rfl (by kernel_rfl) (Nat.le_of_ble_eq_true (by kernel_rfl)) (by kernel_rfl) (by kernel_rfl) (by simp [V.cl, clL, wV, wds_cl, V.i]) (RCb_ok J) ?_
  unfold Tryz.f108
  simp only [bnC, Kseq_app, Nat.reduceMul, Nat.reduceLeDiff, Nat.reduceEqDiff, Nat.reduceLT, Nat.reduceAdd, Nat.reduceSub, ↓reduceIte, implies_true, reduceCtorEq, ne_eq, ↓shr_eq, IntKind.bits, Int.reduceToNat, Int.reducePow, dite_eq_ite, Value.oneCell', Nat.reduceBEq, Nat.reduceDiv, bnS, bnN, bnT, spB, vl_dg, W32_dg, unW_wds, wV, sdf, wds_nil, RCb, RCbf, RCaf, RCwf, unL, List.map_cons, List.map_nil, List.mem_cons, List.not_mem_nil, or_false]
  have := ha.l
  have := hb.l
  have := hm.l
  have h3 := Nat.mod_lt (vl a) (show 0 < vl m by omega)
  have h4 := Nat.mod_lt (vl b) (show 0 < vl m by omega)
  have l1 := dg_mono (Nat.le_of_lt h3)
  have l2 := dg_mono (show vl b % vl m ≤ vl a % vl m + vl m by omega)
  have l3 := dg_sum7 (a := vl a % vl m) (b := vl m) (k := 128) (by have := hm.n; omega) hm.n
  have l4 := dg_mono (show vl a % vl m + vl m - vl b % vl m ≤ vl a % vl m + vl m by omega)
  have := hm.n
  unfold subM
  have := ha.w
  have := hb.w
  have := hm.w
  refine ⟨hm, h2, fun x hx => by rcases hx with rfl | rfl <;> assumption, by simp, fun _ => ?_⟩
  repeat (with_reducible refine And.intro ?_ ?_; · first | omega | assumption)
  first | omega | assumption | rfl
theorem mul7_fn : Fn Tryz.prog J 109 false [wV a, wV b, wV m] (.tu [wV (dg (vl a * vl b % vl m)), .i 0]) := by
  refine fn_intro Tryz.func109 rfl (by kernel_rfl) (Nat.le_of_ble_eq_true (by kernel_rfl)) (by kernel_rfl) (by kernel_rfl) (by simp [V.cl, clL, wV, wds_cl, V.i]) (RCb_ok J) ?_
  unfold Tryz.f109
  simp only [bnC, Kseq_app, Nat.reduceMul, Nat.reduceLeDiff, Nat.reduceEqDiff, Nat.reduceLT, Nat.reduceAdd, Nat.reduceSub, ↓reduceIte, implies_true, reduceCtorEq, ne_eq, ↓shr_eq, IntKind.bits, Int.reduceToNat, Int.reducePow, dite_eq_ite, Value.oneCell', Nat.reduceBEq, Nat.reduceDiv, bnS, bnN, bnT, spB, vl_dg, W32_dg, unW_wds, wV, sdf, wds_nil, RCb, RCbf, RCaf, RCwf, unL, List.map_cons, List.map_nil, List.mem_cons, List.not_mem_nil, or_false]
  have := ha.l
  have := hb.l
  have := hm.l
  have hs := dg_prod_len (x := vl a) (y := vl b) (k := 128) (j := 128) ha.n hb.n
  have := ha.w
  have := hb.w
  have := hm.w
  refine ⟨hm, h2, fun x hx => by rcases hx with rfl | rfl <;> assumption, by simp, fun _ => ?_⟩
  repeat (with_reducible refine And.intro ?_ ?_; · first | omega | assumption)
  first | omega | assumption | rfl
end
end Go.Proofs.YtmpklnhmempmgaaGreatDoor
