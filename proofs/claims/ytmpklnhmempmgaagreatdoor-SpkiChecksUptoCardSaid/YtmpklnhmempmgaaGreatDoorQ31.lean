/- Whole numbers of any size (bignum): the rest of a division. The curves P-256 and P-384 (curve): the constants, and sums and products modulo the prime. -/
import Derived.Test.YtmpklnhmempmgaaGreatDoorQ30
namespace Go.Proofs.YtmpklnhmempmgaaGreatDoor
open Go.RowKit
set_option linter.unusedSimpArgs false
set_option maxRecDepth 100000
theorem pos_and (b : Bool) (n : Nat) : (b && decide (0 < (dg n).length)) = (b && decide (n ≠ 0)) := by
  congr 1
  by_cases h : n = 0
  · subst h; rw [dg_zero]; rfl
  · rw [decide_eq_true h]
    exact decide_eq_true (Nat.pos_of_ne_zero fun e => h (dg_eq_nil.1 (List.length_eq_zero_iff.1 e)))
theorem bQuo_fn (J : Inv) (k kr nx : Nat) (h1 : (k = kr) = False) (h2 : (kr = k) = False) (b0 v0 : V) (bx : Bool) (x y : Nat) (hx : (dg x).length ≤ 100000) (hy : (dg y).length ≤ 100000) (hy3 : 3 ≤ (dg y).length) : FnH Tryz.prog J 129 [.op k 0, .op kr 0, pN y, .op kr 0] [(k, .box 59 (.st [b0, v0])), (kr, .box 59 (bI bx x))] nx (.tu [.op k 0, .op kr 0]) [(k, .box 59 (bI (bx && decide (x / y ≠ 0)) (x / y))), (kr, .box 59 (bI (bx && decide (x % y ≠ 0)) (x % y)))] nx := by
  rw [← pos_and, ← pos_and]
  refine fnH_intro Tryz.func129 rfl (by kernel_rfl) (Nat.le_of_ble_eq_true (by kernel_rfl)) (by kernel_rfl) (by kernel_rfl) (SBi_ok J nx) rfl ?_
  unfold Tryz.f129
  simp only [↓Br_t, ↓Br_f, ↓Brg_t, ↓Brg_f, bnC, Kseq_app, Nat.reduceMul, Nat.reduceLeDiff, Nat.reduceEqDiff, Nat.reduceLT, Nat.reduceAdd, Nat.reduceSub, ↓reduceIte, implies_true, reduceCtorEq, ne_eq, ↓shr_eq, IntKind.bits, Int.reduceToNat, Int.reducePow, dite_eq_ite, Value.oneCell', Nat.reduceBEq, Nat.reduceDiv, bnS, bnN, bnT, spB, vl_dg, W32_dg, unW_wds, wV, sdf, wds_nil, SBi, SBsf, SBnf, SBmf, SBgh, pN, bI, h1, h2]
  refine DrawC.sch [(0, some []), (1, some []), (2, some []), (3, some []), (4, some []), (5, some []), (6, some []), (7, some []), (8, none), (9, some []), (10, some []), (11, some []), (12, some []), (13, some [])] [] (by kernel_rfl) ?_
  simp only [↓Br_t, ↓Br_f, ↓Brg_t, ↓Brg_f, bnC, Kseq_app, Nat.reduceMul, Nat.reduceLeDiff, Nat.reduceEqDiff, Nat.reduceLT, Nat.reduceAdd, Nat.reduceSub, ↓reduceIte, implies_true, reduceCtorEq, ne_eq, ↓shr_eq, IntKind.bits, Int.reduceToNat, Int.reducePow, dite_eq_ite, Value.oneCell', Nat.reduceBEq, Nat.reduceDiv, bnS, bnN, bnT, spB, vl_dg, W32_dg, unW_wds, wV, sdf, wds_nil, SBi, SBsf, SBnf, SBmf, SBgh, pN, bI, h1, h2]
  refine ⟨.of (by omega), .of (by omega), hy3, by omega, by omega, .inl ?_⟩
  simp only [↓Br_t, ↓Br_f, ↓Brg_t, ↓Brg_f, bnC, Kseq_app, Nat.reduceMul, Nat.reduceLeDiff, Nat.reduceEqDiff, Nat.reduceLT, Nat.reduceAdd, Nat.reduceSub, ↓reduceIte, implies_true, reduceCtorEq, ne_eq, ↓shr_eq, IntKind.bits, Int.reduceToNat, Int.reducePow, dite_eq_ite, Value.oneCell', Nat.reduceBEq, Nat.reduceDiv, bnS, bnN, bnT, spB, vl_dg, W32_dg, unW_wds, wV, sdf, wds_nil, h1, h2]
  exact ⟨by cases bx <;> rfl, Nat.le_refl _⟩
def SBlh : FuncId → List V → List (Nat × Ob) → Nat → Option CallH := fun f args h nx =>
  if f = 129 then match args with
    | [.op k 0, .op kr 0, .pe (.sq 2 .any [.st [.bb false, .sq 1 dy Ly]]) 0 0, .op krq4 0] => (match Hroot h k, Hroot h kr with | some (.box tyk (.st [bk, vk])), some (.box tykr (.st [.bb bx, .sq 1 dx Lx])) => some ⟨[dy = .val (.int .u32 0), Ly = wds (dg (vl (unW Ly))), kr = krq4, tyk = 59, tykr = 59, dx = .val (.int .u32 0), Lx = wds (dg (vl (unW Lx))), (k = kr) = False, (kr = k) = False, (dg (vl (unW Lx))).length ≤ 100000, (dg (vl (unW Ly))).length ≤ 100000, 3 ≤ (dg (vl (unW Ly))).length], [], [(k, .box 59 (.st [bk, vk])), (kr, .box 59 (bI bx (vl (unW Lx))))], .tu [.op k 0, .op kr 0], [(k, .box 59 (bI (bx && decide ((vl (unW Lx)) / (vl (unW Ly)) ≠ 0)) ((vl (unW Lx)) / (vl (unW Ly))))), (kr, .box 59 (bI (bx && decide ((vl (unW Lx)) % (vl (unW Ly)) ≠ 0)) ((vl (unW Lx)) % (vl (unW Ly)))))], nx⟩ | _, _ => none)
    | _ => none
  else if f = 128 then match args with
    | [.op k 0, .pe (.sq 2 .any [.st [.bb false, .sq 1 dx Lx]]) 0 0] => (match Hroot h k with | some (.box tyk (.st [bk, vk])) => some ⟨[dx = .val (.int .u32 0), Lx = wds (dg (vl (unW Lx))), tyk = 59, (dg (vl (unW Lx))).length ≤ 100000], [], [(k, .box 59 (.st [bk, vk]))], .op k 0, [(k, .box 59 (bI false (vl (unW Lx))))], nx⟩ | _ => none)
    | _ => none
  else if f = 93 then match args with
    | [.op k 0, .op kq1 0, .pe (.sq 2 .any [.st [.bb false, .sq 1 dy Ly]]) 0 0] => (match Hroot h k with | some (.box tyk (.st [.bb bx, .sq 1 dx Lx])) => some ⟨[k = kq1, dy = .val (.int .u32 0), Ly = wds (dg (vl (unW Ly))), tyk = 59, dx = .val (.int .u32 0), Lx = wds (dg (vl (unW Lx))), (dg (vl (unW Lx))).length ≤ 100000, (dg (vl (unW Ly))).length ≤ 100000], [], [(k, .box 59 (bI bx (vl (unW Lx))))], .op k 0, [(k, .box 59 (bI (sumB bx (vl (unW Lx)) true (vl (unW Ly)) && decide (0 < (dg (sumN bx (vl (unW Lx)) true (vl (unW Ly)))).length)) (sumN bx (vl (unW Lx)) true (vl (unW Ly)))))], nx⟩ | _ => none)
    | _ => none
  else if f = 60 then match args with
    | [.op k 0, .op kq1 0, .op k2 0] => (match Hroot h k, Hroot h k2 with | some (.box tyk (.st [.bb bx, .sq 1 dx Lx])), some (.box tyk2 (.st [.bb bf, .sq 1 dy Ly])) => some ⟨[k = kq1, tyk = 59, dx = .val (.int .u32 0), Lx = wds (dg (vl (unW Lx))), tyk2 = 59, dy = .val (.int .u32 0), Ly = wds (dg (vl (unW Ly))), bf = false, (k = k2) = False, (dg (vl (unW Lx))).length ≤ 100000, (dg (vl (unW Ly))).length ≤ 100000], [], [(k, .box 59 (bI bx (vl (unW Lx)))), (k2, .box 59 (bI bf (vl (unW Ly))))], .op k 0, [(k, .box 59 (bI (sumB bx (vl (unW Lx)) false (vl (unW Ly)) && decide (0 < (dg (sumN bx (vl (unW Lx)) false (vl (unW Ly)))).length)) (sumN bx (vl (unW Lx)) false (vl (unW Ly))))), (k2, .box 59 (bI false (vl (unW Ly))))], nx⟩ | _, _ => none)
    | _ => none
  else none
theorem SBlh_ok (J : Inv) (f : FuncId) (args : List V) (h : List (Nat × Ob)) (nx : Nat) (c : CallH) (hc : SBlh f args h nx = some c) (hl : AllP c.l) : FnH Tryz.prog J f (mixA h c.bw args).1 c.pre nx c.res c.post c.nx := by
  unfold SBlh at hc
  split at hc
  · rename_i hf; subst hf
    split at hc
    · rename_i k kr dy Ly krq4
      split at hc
      · rename_i tyk bk vk tykr bx dx Lx hk0 hk1
        obtain rfl := Option.some.inj hc
        obtain ⟨qdy, qly, ekrq4, qtk, qtkr, qdx, qlx, c0, c1, c2, c3, c4, -⟩ := hl.un
        clear hl
        subst qdy ekrq4 qtk qtkr qdx
        obtain ⟨y, rfl⟩ : ∃ z, Ly = wds (dg z) := ⟨_, qly⟩
        obtain ⟨x, rfl⟩ : ∃ z, Lx = wds (dg z) := ⟨_, qlx⟩
        try simp only [unW_wds, vl_dg] at c0
        try simp only [unW_wds, vl_dg] at c1
        try simp only [unW_wds, vl_dg] at c2
        try simp only [unW_wds, vl_dg] at c3
        try simp only [unW_wds, vl_dg] at c4
        simp only [unW_wds, vl_dg]
        exact bQuo_fn J k kr nx c0 c1 bk vk bx x y c2 c3 c4
      · exact absurd hc (by simp)
    · exact absurd hc (by simp)
  · split at hc
    · rename_i hf; subst hf
      split at hc
      · rename_i k dx Lx
        split at hc
        · rename_i tyk bk vk hk0
          obtain rfl := Option.some.inj hc
          obtain ⟨qdx, qlx, qtk, c0, -⟩ := hl.un
          clear hl
          subst qdx qtk
          obtain ⟨x, rfl⟩ : ∃ z, Lx = wds (dg z) := ⟨_, qlx⟩
          try simp only [unW_wds, vl_dg] at c0
          simp only [unW_wds, vl_dg]
          exact bSet_fn J k nx bk vk x c0
        · exact absurd hc (by simp)
      · exact absurd hc (by simp)
    · split at hc
      · rename_i hf; subst hf
        split at hc
        · rename_i k kq1 dy Ly
          split at hc
          · rename_i tyk bx dx Lx hk0
            obtain rfl := Option.some.inj hc
            obtain ⟨ekq1, qdy, qly, qtk, qdx, qlx, c0, c1, -⟩ := hl.un
            clear hl
            subst ekq1 qdy qtk qdx
            obtain ⟨y, rfl⟩ : ∃ z, Ly = wds (dg z) := ⟨_, qly⟩
            obtain ⟨x, rfl⟩ : ∃ z, Lx = wds (dg z) := ⟨_, qlx⟩
            try simp only [unW_wds, vl_dg] at c0
            try simp only [unW_wds, vl_dg] at c1
            simp only [unW_wds, vl_dg]
            exact bSubO_fn J k nx bx x y c0 c1
          · exact absurd hc (by simp)
        · exact absurd hc (by simp)
      · split at hc
        · rename_i hf; subst hf
          split at hc
          · rename_i k kq1 k2
            split at hc
            · rename_i tyk bx dx Lx tyk2 bf dy Ly hk0 hk1
              obtain rfl := Option.some.inj hc
              obtain ⟨ekq1, qtk, qdx, qlx, qtk2, qdy, qly, c0, c1, c2, c3, -⟩ := hl.un
              clear hl
              subst ekq1 qtk qdx qtk2 qdy
              obtain ⟨x, rfl⟩ : ∃ z, Lx = wds (dg z) := ⟨_, qlx⟩
              obtain ⟨y, rfl⟩ : ∃ z, Ly = wds (dg z) := ⟨_, qly⟩
              try simp only [unW_wds, vl_dg] at c0
              try simp only [unW_wds, vl_dg] at c1
              try simp only [unW_wds, vl_dg] at c2
              try simp only [unW_wds, vl_dg] at c3
              simp only [unW_wds, vl_dg]
              exact (by subst c0; exact bAddO_fn J k nx k2 c1 bx x y c2 c3)
            · exact absurd hc (by simp)
          · exact absurd hc (by simp)
        · exact absurd hc (by simp)
def SBpf : FuncId → List V → Option (List Prop × Bool × V) := fun f args =>
  if f = 94 then match args with
    | [.val (.int .i64 n)] => some ([0 ≤ n, n < 9223372036854775808], false, pN n.toNat)
    | _ => none
  else none
def SBp (J : Inv) : Sig := ⟨J, sdf, SBpf, noH, 0⟩
theorem SBp_ok (J : Inv) : SigOk Tryz.prog (SBp J) := by
  refine .plain fun f args l fr r h hl => ?_
  change SBpf f args = some (l, fr, r) at h
  unfold SBpf at h
  split at h
  · rename_i hf; subst hf
    split at h
    · rename_i n
      obtain ⟨rfl, rfl, rfl⟩ := jsome_tri h
      obtain ⟨c0, c1, -⟩ := hl.un
      have hp := (by have h := newInt_fn J n.toNat (by omega); rwa [show V.i (n.toNat : Int) = .val (.int .i64 n) by unfold V.i; rw [Int.toNat_of_nonneg c0]] at h)
      exact hp
    · exact absurd h (by simp)
  · exact absurd h (by simp)
def SBq (J : Inv) (b : Nat) : Sig := ⟨J, sdf, SBpf, SBlh, b⟩
theorem SBq_ok (J : Inv) (b : Nat) : SigOk Tryz.prog (SBq J b) := ⟨(SBp_ok J).1, SBlh_ok J⟩
def modS (bx : Bool) (n p : Nat) : Nat := if bx = true ∧ n % p ≠ 0 then p - n % p else n % p
theorem bDiv1_fn (J : Inv) (k kr nx : Nat) (h1 : (k = kr) = False) (h2 : (kr = k) = False) (h3 : k < nx) (h4 : kr < nx) (b0 v0 : V) (bx : Bool) (x y : Nat) (hx : (dg x).length ≤ 90000) (hy : (dg y).length ≤ 90000) (hy3 : 3 ≤ (dg y).length) (hb : bx = true ∧ x % y ≠ 0) : FnH Tryz.prog J 115 [.op k 0, .op kr 0, pN y, .op kr 0] [(k, .box 59 (.st [b0, v0])), (kr, .box 59 (bI bx x))] nx (.tu [.op k 0, .op kr 0]) [(k, .box 59 (bI (sumB (bx && decide (¬ x / y = 0)) (x / y) true 1 && decide (0 < (dg (sumN (bx && decide (¬ x / y = 0)) (x / y) true 1)).length)) (sumN (bx && decide (¬ x / y = 0)) (x / y) true 1))), (kr, .box 59 (bI false (modS bx x y)))] (nx + 1) := by
  have h5 : (nx = k) = False := eq_false (by omega)
  have h6 : (nx = kr) = False := eq_false (by omega)
  have h7 : (k = nx) = False := eq_false (by omega)
  have h8 : (kr = nx) = False := eq_false (by omega)
  have hy0 : 0 < y := Nat.pos_of_ne_zero fun e => by rw [e, dg_zero] at hy3; exact absurd hy3 (by simp)
  have l1 := dg_mono (Nat.div_le_self x y)
  have l2 := dg_mono (Nat.mod_le x y)
  have l3 : (dg 1).length ≤ 1 := dg_len (by omega)
  have hm := Nat.mod_lt x hy0
  have eb : (bx && decide (¬ x % y = 0)) = true := by rw [hb.1, decide_eq_true hb.2]; rfl
  have em : modS bx x y = y - x % y := if_pos hb
  have es : sumN true (x % y) false y = y - x % y := by
    unfold sumN
    rw [if_neg (by simp), if_neg (by omega)]
  have et : sumB true (x % y) false y = false := by
    unfold sumB
    rw [if_neg (by simp), if_neg (by omega)]
  refine fnH_intro Tryz.func115 rfl (by kernel_rfl) (Nat.le_of_ble_eq_true (by kernel_rfl)) (by kernel_rfl) (by kernel_rfl) (SBq_ok J nx) rfl ?_
  unfold Tryz.f115
  simp only [↓Br_t, ↓Br_f, ↓Brg_t, ↓Brg_f, bnC, Kseq_app, Nat.reduceMul, Nat.reduceLeDiff, Nat.reduceEqDiff, Nat.reduceLT, Nat.reduceAdd, Nat.reduceSub, ↓reduceIte, implies_true, reduceCtorEq, ne_eq, ↓shr_eq, IntKind.bits, Int.reduceToNat, Int.reducePow, dite_eq_ite, Value.oneCell', Nat.reduceBEq, Nat.reduceDiv, bnS, bnN, bnT, spB, vl_dg, W32_dg, unW_wds, wV, sdf, wds_nil, SBq, SBpf, SBlh, pN, bI, h1, h2, h5, h6, h7, h8, eb, es, et, em]
  refine ⟨by omega, by omega, by omega, hy3, by omega, by omega, by omega, by omega, by omega, by omega, .inl ?_⟩
  simp only [↓Br_t, ↓Br_f, ↓Brg_t, ↓Brg_f, bnC, Kseq_app, Nat.reduceMul, Nat.reduceLeDiff, Nat.reduceEqDiff, Nat.reduceLT, Nat.reduceAdd, Nat.reduceSub, ↓reduceIte, implies_true, reduceCtorEq, ne_eq, ↓shr_eq, IntKind.bits, Int.reduceToNat, Int.reducePow, dite_eq_ite, Value.oneCell', Nat.reduceBEq, Nat.reduceDiv, bnS, bnN, bnT, spB, vl_dg, W32_dg, unW_wds, wV, sdf, wds_nil, h1, h2, h5, h6, h7, h8]
  exact Nat.le_refl _
theorem bDiv0_fn (J : Inv) (k kr nx : Nat) (h1 : (k = kr) = False) (h2 : (kr = k) = False) (h3 : k < nx) (h4 : kr < nx) (b0 v0 : V) (bx : Bool) (x y : Nat) (hx : (dg x).length ≤ 90000) (hy : (dg y).length ≤ 90000) (hy3 : 3 ≤ (dg y).length) (hb : ¬ (bx = true ∧ x % y ≠ 0)) : FnH Tryz.prog J 115 [.op k 0, .op kr 0, pN y, .op kr 0] [(k, .box 59 (.st [b0, v0])), (kr, .box 59 (bI bx x))] nx (.tu [.op k 0, .op kr 0]) [(k, .box 59 (bI (bx && decide (¬ x / y = 0)) (x / y))), (kr, .box 59 (bI false (modS bx x y)))] (nx + 1) := by
  have h5 : (nx = k) = False := eq_false (by omega)
  have h6 : (nx = kr) = False := eq_false (by omega)
  have h7 : (k = nx) = False := eq_false (by omega)
  have h8 : (kr = nx) = False := eq_false (by omega)
  have hy0 : 0 < y := Nat.pos_of_ne_zero fun e => by rw [e, dg_zero] at hy3; exact absurd hy3 (by simp)
  have l1 := dg_mono (Nat.div_le_self x y)
  have l2 := dg_mono (Nat.mod_le x y)
  have l3 : (dg 1).length ≤ 1 := dg_len (by omega)
  have hm := Nat.mod_lt x hy0
  have eb : (bx && decide (¬ x % y = 0)) = false := by
    cases bx
    · rfl
    · rw [Bool.true_and]; exact decide_eq_false fun h => hb ⟨rfl, h⟩
  have em : modS bx x y = x % y := if_neg hb
  refine fnH_intro Tryz.func115 rfl (by kernel_rfl) (Nat.le_of_ble_eq_true (by kernel_rfl)) (by kernel_rfl) (by kernel_rfl) (SBq_ok J nx) rfl ?_
  unfold Tryz.f115
  simp only [↓Br_t, ↓Br_f, ↓Brg_t, ↓Brg_f, bnC, Kseq_app, Nat.reduceMul, Nat.reduceLeDiff, Nat.reduceEqDiff, Nat.reduceLT, Nat.reduceAdd, Nat.reduceSub, ↓reduceIte, implies_true, reduceCtorEq, ne_eq, ↓shr_eq, IntKind.bits, Int.reduceToNat, Int.reducePow, dite_eq_ite, Value.oneCell', Nat.reduceBEq, Nat.reduceDiv, bnS, bnN, bnT, spB, vl_dg, W32_dg, unW_wds, wV, sdf, wds_nil, SBq, SBpf, SBlh, pN, bI, h1, h2, h5, h6, h7, h8, eb, em]
  refine ⟨by omega, by omega, by omega, hy3, .inl ?_⟩
  simp only [↓Br_t, ↓Br_f, ↓Brg_t, ↓Brg_f, bnC, Kseq_app, Nat.reduceMul, Nat.reduceLeDiff, Nat.reduceEqDiff, Nat.reduceLT, Nat.reduceAdd, Nat.reduceSub, ↓reduceIte, implies_true, reduceCtorEq, ne_eq, ↓shr_eq, IntKind.bits, Int.reduceToNat, Int.reducePow, dite_eq_ite, Value.oneCell', Nat.reduceBEq, Nat.reduceDiv, bnS, bnN, bnT, spB, vl_dg, W32_dg, unW_wds, wV, sdf, wds_nil, h1, h2, h5, h6, h7, h8]
  exact Nat.le_refl _
def divC (bx : Bool) (x y : Nat) : V := if bx = true ∧ x % y ≠ 0 then (bI (sumB (bx && decide (¬ x / y = 0)) (x / y) true 1 && decide (0 < (dg (sumN (bx && decide (¬ x / y = 0)) (x / y) true 1)).length)) (sumN (bx && decide (¬ x / y = 0)) (x / y) true 1)) else (bI (bx && decide (¬ x / y = 0)) (x / y))
theorem bDiv_fn (J : Inv) (k kr nx : Nat) (h1 : (k = kr) = False) (h2 : (kr = k) = False) (h3 : k < nx) (h4 : kr < nx) (b0 v0 : V) (bx : Bool) (x y : Nat) (hx : (dg x).length ≤ 90000) (hy : (dg y).length ≤ 90000) (hy3 : 3 ≤ (dg y).length) : FnH Tryz.prog J 115 [.op k 0, .op kr 0, pN y, .op kr 0] [(k, .box 59 (.st [b0, v0])), (kr, .box 59 (bI bx x))] nx (.tu [.op k 0, .op kr 0]) [(k, .box 59 (divC bx x y)), (kr, .box 59 (bI false (modS bx x y)))] (nx + 1) := by
  unfold divC
  by_cases hb : bx = true ∧ x % y ≠ 0
  · rw [if_pos hb]; exact bDiv1_fn J k kr nx h1 h2 h3 h4 b0 v0 bx x y hx hy hy3 hb
  · rw [if_neg hb]; exact bDiv0_fn J k kr nx h1 h2 h3 h4 b0 v0 bx x y hx hy hy3 hb
def SBrh : FuncId → List V → List (Nat × Ob) → Nat → Option CallH := fun f args h nx =>
  if f = 115 then match args with
    | [.op k 0, .op kr 0, .pe (.sq 2 .any [.st [.bb false, .sq 1 dy Ly]]) 0 0, .op krq4 0] => (match Hroot h k, Hroot h kr with | some (.box tyk (.st [bk, vk])), some (.box tykr (.st [.bb bx, .sq 1 dx Lx])) => some ⟨[dy = .val (.int .u32 0), Ly = wds (dg (vl (unW Ly))), kr = krq4, tyk = 59, tykr = 59, dx = .val (.int .u32 0), Lx = wds (dg (vl (unW Lx))), (k = kr) = False, (kr = k) = False, k < nx, kr < nx, (dg (vl (unW Lx))).length ≤ 90000, (dg (vl (unW Ly))).length ≤ 90000, 3 ≤ (dg (vl (unW Ly))).length], [], [(k, .box 59 (.st [bk, vk])), (kr, .box 59 (bI bx (vl (unW Lx))))], .tu [.op k 0, .op kr 0], [(k, .box 59 (divC bx (vl (unW Lx)) (vl (unW Ly)))), (kr, .box 59 (bI false (modS bx (vl (unW Lx)) (vl (unW Ly)))))], nx + 1⟩ | _, _ => none)
    | _ => none
  else none
theorem SBrh_ok (J : Inv) (f : FuncId) (args : List V) (h : List (Nat × Ob)) (nx : Nat) (c : CallH) (hc : SBrh f args h nx = some c) (hl : AllP c.l) : FnH Tryz.prog J f (mixA h c.bw args).1 c.pre nx c.res c.post c.nx := by
  unfold SBrh at hc
  split at hc
  · rename_i hf; subst hf
    split at hc
    · rename_i k kr dy Ly krq4
      split at hc
      · rename_i tyk bk vk tykr bx dx Lx hk0 hk1
        obtain rfl := Option.some.inj hc
        obtain ⟨qdy, qly, ekrq4, qtk, qtkr, qdx, qlx, c0, c1, c2, c3, c4, c5, c6, -⟩ := hl.un
        clear hl
        subst qdy ekrq4 qtk qtkr qdx
        obtain ⟨y, rfl⟩ : ∃ z, Ly = wds (dg z) := ⟨_, qly⟩
        obtain ⟨x, rfl⟩ : ∃ z, Lx = wds (dg z) := ⟨_, qlx⟩
        try simp only [unW_wds, vl_dg] at c0
        try simp only [unW_wds, vl_dg] at c1
        try simp only [unW_wds, vl_dg] at c2
        try simp only [unW_wds, vl_dg] at c3
        try simp only [unW_wds, vl_dg] at c4
        try simp only [unW_wds, vl_dg] at c5
        try simp only [unW_wds, vl_dg] at c6
        simp only [unW_wds, vl_dg]
        exact bDiv_fn J k kr nx c0 c1 c2 c3 bk vk bx x y c4 c5 c6
      · exact absurd hc (by simp)
    · exact absurd hc (by simp)
  · exact absurd hc (by simp)
def SBr (J : Inv) (b : Nat) : Sig := ⟨J, sdf, SBpf, SBrh, b⟩
theorem SBr_ok (J : Inv) (b : Nat) : SigOk Tryz.prog (SBr J b) := ⟨(SBp_ok J).1, SBrh_ok J⟩
theorem bMod_fn (J : Inv) (k nx : Nat) (h1 : k < nx) (bx : Bool) (x y : Nat) (hx : (dg x).length ≤ 90000) (hy : (dg y).length ≤ 90000) (hy3 : 3 ≤ (dg y).length) : FnH Tryz.prog J 95 [.op k 0, .op k 0, pN y] [(k, .box 59 (bI bx x))] nx (.op k 0) [(k, .box 59 (bI false (modS bx x y)))] (nx + 2) := by
  have h2 : (k = nx) = False := eq_false (by omega)
  have h3 : (nx = k) = False := eq_false (by omega)
  refine fnH_intro Tryz.func95 rfl (by kernel_rfl) (Nat.le_of_ble_eq_true (by kernel_rfl)) (by kernel_rfl) (by kernel_rfl) (SBr_ok J nx) rfl ?_
  unfold Tryz.f95
  simp only [↓Br_t, ↓Br_f, ↓Brg_t, ↓Brg_f, bnC, Kseq_app, Nat.reduceMul, Nat.reduceLeDiff, Nat.reduceEqDiff, Nat.reduceLT, Nat.reduceAdd, Nat.reduceSub, ↓reduceIte, implies_true, reduceCtorEq, ne_eq, ↓shr_eq, IntKind.bits, Int.reduceToNat, Int.reducePow, dite_eq_ite, Value.oneCell', Nat.reduceBEq, Nat.reduceDiv, bnS, bnN, bnT, spB, vl_dg, W32_dg, unW_wds, wV, sdf, wds_nil, SBr, SBpf, SBrh, pN, bI, h1, h2, h3]
  refine ⟨by omega, by omega, hx, hy, hy3, .inl ?_⟩
  simp only [↓Br_t, ↓Br_f, ↓Brg_t, ↓Brg_f, bnC, Kseq_app, Nat.reduceMul, Nat.reduceLeDiff, Nat.reduceEqDiff, Nat.reduceLT, Nat.reduceAdd, Nat.reduceSub, ↓reduceIte, implies_true, reduceCtorEq, ne_eq, ↓shr_eq, IntKind.bits, Int.reduceToNat, Int.reducePow, dite_eq_ite, Value.oneCell', Nat.reduceBEq, Nat.reduceDiv, bnS, bnN, bnT, spB, vl_dg, W32_dg, unW_wds, wV, sdf, wds_nil, h1, h2, h3]
  exact Nat.le_refl _
/-- A box that is one's own is given out of hand: it is only read from then on. -/
theorem FnH.lend_box {P : Program} {J : Inv} {f : FuncId} {args : List V} {h : List (Nat × Ob)} {k nx nx' : Nat} {ty : TypeId} {cs : List V} (hf : FnH P J f args h nx (.op k 0) [(k, .box ty (.st cs))] nx') (h0 : 0 < cs.length) : FnH P J f args h nx (.pe (.sq cs.length .any [.st cs]) 0 0) [] nx' := by
  refine ⟨hf.1, fun w F vs hmem0 hlen hvs => ?_⟩
  refine (hf.2 w F vs hmem0 hlen hvs).mono fun e w' ⟨v, G, he, hev, hle, hkeep, hmem, hown, hrep⟩ => ?_
  have hk : Hroot [(k, Ob.box ty (.st cs))] k = some (.box ty (.st cs)) := by simp [Hroot]
  obtain ⟨b, hO, rfl⟩ := rep_op hrep
  obtain ⟨b', cells, u, hO', hheap, hsz, h1, h2, h3⟩ := hmem.own (.r k) _ hk
  rw [hO] at hO'
  obtain rfl : b = b' := by simpa using hO'
  have hb0 := hown (.r k) _ b hk (by simp [Cx.blk, hO])
  refine ⟨_, ⟨fun b' => G.F b' ∧ b' ≠ b, G.O, G.W⟩, he, hev, ⟨fun b' hb' => hle.le1 b' hb'.1, hle.le2, hle.le3⟩, fun b' hb' hn => ⟨hkeep b' hb' hn, fun e => ?_⟩, ⟨fun b' hb' => hmem.flt b' hb'.1, hmem.nx, fun m o hm => by cases m <;> simp [Hget, Hroot, Hchild] at hm, fun m m' o o' g hm => by cases m <;> simp [Hget, Hroot, Hchild] at hm, hmem.wsl, J.out hmem.inv (Nat.le_refl _) (fun _ _ _ => rfl) fun b hb => .inl hb.1⟩, fun m o g hm => by cases m <;> simp [Hget, Hroot, Hchild] at hm, ?_⟩
  · subst e
    rcases hb0 with h | h
    · exact hn h
    · exact absurd (hmem0.flt b' hb') (by omega)
  · have hcs : (V.st cs).csize = cs.length := rfl
    have hp : Rep w' ⟨fun b' => G.F b' ∧ b' ≠ b, G.O, G.W⟩ (.pe (.sq cs.length .any [.st cs]) 0 0) (.pointer (some ⟨b, 0 + (0 * cs.length + 0), none⟩)) := by
      refine .pe (.sq cs.length .any [.st cs]) cs.length 1 (fun i => [V.st cs].getD i .any) 0 0 b 0 (fun _ j => u j) (by simp only [V.elems, List.length_singleton]; rw [if_neg (by omega)]) (by omega) (heap_lt hheap) (fun hb => hb.2 rfl) (fun i hi j hj => ?_) (fun i hi j hj => ?_)
      · obtain rfl : i = 0 := by omega
        have h3 := h1 j (by rw [hcs]; exact hj)
        rw [show 0 + (0 * cs.length + j) = j by omega]
        exact ⟨(cell0 hheap j).trans h3.1, h3.2⟩
      · obtain rfl : i = 0 := by omega
        have h3 := h2 j (by rw [hcs]; exact hj)
        exact h3.le ⟨fun b hb => .inl hb.1, fun _ _ h => h, fun _ _ h => h⟩
    rw [show 0 + (0 * cs.length + 0) = 0 by omega] at hp
    exact hp
def SCah : FuncId → List V → List (Nat × Ob) → Nat → Option CallH := fun f args h nx =>
  if f = 110 then match args with
    | [.op k 0, .str s, .val (.int .i64 n)] => (match Hroot h k with | some (.box tyk (.st [bk, vk])) => some ⟨[tyk = 59, n = 16, s.length ≤ 1000, s.length ≠ 0, HexOk s], [], [(k, .box 59 (.st [bk, vk]))], .tu [.op k 0, .bb true], [(k, .box 59 (bI false (hexN s)))], nx⟩ | _ => none)
    | _ => none
  else none
theorem SCah_ok (J : Inv) (f : FuncId) (args : List V) (h : List (Nat × Ob)) (nx : Nat) (c : CallH) (hc : SCah f args h nx = some c) (hl : AllP c.l) : FnH Tryz.prog J f (mixA h c.bw args).1 c.pre nx c.res c.post c.nx := by
  unfold SCah at hc
  split at hc
  · rename_i hf; subst hf
    split at hc
    · rename_i k s n
      split at hc
      · rename_i tyk bk vk hk0
        obtain rfl := Option.some.inj hc
        obtain ⟨qtk, c0, c1, c2, c3, -⟩ := hl.un
        clear hl
        subst qtk
        exact (by subst c0; exact setString_fn J k nx bk vk s c1 c2 c3)
      · exact absurd hc (by simp)
    · exact absurd hc (by simp)
  · exact absurd hc (by simp)
def SCa (J : Inv) (b : Nat) : Sig := ⟨J, sdf, SBsf, SCah, b⟩
theorem SCa_ok (J : Inv) (b : Nat) : SigOk Tryz.prog (SCa J b) := ⟨(SBs_ok J).1, SCah_ok J⟩
theorem number16_fn (J : Inv) (s : List UInt8) (h1 : s.length ≤ 1000) (h0 : s.length ≠ 0) (hx : HexOk s) : Fn Tryz.prog J 90 false [.str s] (pN (hexN s)) := by
  refine Fn.of_box (k := 0) (nx := 1) (ty := 59) (post := [(0, .box 59 (bI false (hexN s)))]) ?_ rfl (by simp [clL, V.cl, wV, wds_cl]) (by simp)
  refine fnH_intro Tryz.func90 rfl (by kernel_rfl) (Nat.le_of_ble_eq_true (by kernel_rfl)) (by kernel_rfl) (by kernel_rfl) (SCa_ok J 0) rfl ?_
  unfold Tryz.f90
  simp only [↓Br_t, ↓Br_f, ↓Brg_t, ↓Brg_f, bnC, Kseq_app, Nat.reduceMul, Nat.reduceLeDiff, Nat.reduceEqDiff, Nat.reduceLT, Nat.reduceAdd, Nat.reduceSub, ↓reduceIte, implies_true, reduceCtorEq, ne_eq, ↓shr_eq, IntKind.bits, Int.reduceToNat, Int.reducePow, dite_eq_ite, Value.oneCell', Nat.reduceBEq, Nat.reduceDiv, bnS, bnN, bnT, spB, vl_dg, W32_dg, unW_wds, wV, sdf, wds_nil, SCa, SBsf, SBnf, SBmf, SCah, pN, bI]
  refine ⟨h1, h0, hx, .inl ?_⟩
  simp only [↓Br_t, ↓Br_f, ↓Brg_t, ↓Brg_f, bnC, Kseq_app, Nat.reduceMul, Nat.reduceLeDiff, Nat.reduceEqDiff, Nat.reduceLT, Nat.reduceAdd, Nat.reduceSub, ↓reduceIte, implies_true, reduceCtorEq, ne_eq, ↓shr_eq, IntKind.bits, Int.reduceToNat, Int.reducePow, dite_eq_ite, Value.oneCell', Nat.reduceBEq, Nat.reduceDiv, bnS, bnN, bnT, spB, vl_dg, W32_dg, unW_wds, wV, sdf, wds_nil]
def hexB (s : List UInt8) : Bool := s.all fun c => (Nat.ble 48 c.toNat && Nat.ble c.toNat 57) || (Nat.ble 97 c.toNat && Nat.ble c.toNat 102)
theorem hexB_ok {s : List UInt8} (h : hexB s = true) : HexOk s := fun c hc => by
  have := List.all_eq_true.1 h c hc
  simp only [Bool.or_eq_true, Bool.and_eq_true] at this
  rcases this with ⟨a, b⟩ | ⟨a, b⟩
  · exact .inl ⟨Nat.le_of_ble_eq_true a, Nat.le_of_ble_eq_true b⟩
  · exact .inr ⟨Nat.le_of_ble_eq_true a, Nat.le_of_ble_eq_true b⟩
def hp256 : List UInt8 := [102, 102, 102, 102, 102, 102, 102, 102, 48, 48, 48, 48, 48, 48, 48, 49, 48, 48, 48, 48, 48, 48, 48, 48, 48, 48, 48, 48, 48, 48, 48, 48, 48, 48, 48, 48, 48, 48, 48, 48, 102, 102, 102, 102, 102, 102, 102, 102, 102, 102, 102, 102, 102, 102, 102, 102, 102, 102, 102, 102, 102, 102, 102, 102]
def hb256 : List UInt8 := [53, 97, 99, 54, 51, 53, 100, 56, 97, 97, 51, 97, 57, 51, 101, 55, 98, 51, 101, 98, 98, 100, 53, 53, 55, 54, 57, 56, 56, 54, 98, 99, 54, 53, 49, 100, 48, 54, 98, 48, 99, 99, 53, 51, 98, 48, 102, 54, 51, 98, 99, 101, 51, 99, 51, 101, 50, 55, 100, 50, 54, 48, 52, 98]
def hn256 : List UInt8 := [102, 102, 102, 102, 102, 102, 102, 102, 48, 48, 48, 48, 48, 48, 48, 48, 102, 102, 102, 102, 102, 102, 102, 102, 102, 102, 102, 102, 102, 102, 102, 102, 98, 99, 101, 54, 102, 97, 97, 100, 97, 55, 49, 55, 57, 101, 56, 52, 102, 51, 98, 57, 99, 97, 99, 50, 102, 99, 54, 51, 50, 53, 53, 49]
def hx256 : List UInt8 := [54, 98, 49, 55, 100, 49, 102, 50, 101, 49, 50, 99, 52, 50, 52, 55, 102, 56, 98, 99, 101, 54, 101, 53, 54, 51, 97, 52, 52, 48, 102, 50, 55, 55, 48, 51, 55, 100, 56, 49, 50, 100, 101, 98, 51, 51, 97, 48, 102, 52, 97, 49, 51, 57, 52, 53, 100, 56, 57, 56, 99, 50, 57, 54]
def hy256 : List UInt8 := [52, 102, 101, 51, 52, 50, 101, 50, 102, 101, 49, 97, 55, 102, 57, 98, 56, 101, 101, 55, 101, 98, 52, 97, 55, 99, 48, 102, 57, 101, 49, 54, 50, 98, 99, 101, 51, 51, 53, 55, 54, 98, 51, 49, 53, 101, 99, 101, 99, 98, 98, 54, 52, 48, 54, 56, 51, 55, 98, 102, 53, 49, 102, 53]
def hp384 : List UInt8 := [102, 102, 102, 102, 102, 102, 102, 102, 102, 102, 102, 102, 102, 102, 102, 102, 102, 102, 102, 102, 102, 102, 102, 102, 102, 102, 102, 102, 102, 102, 102, 102, 102, 102, 102, 102, 102, 102, 102, 102, 102, 102, 102, 102, 102, 102, 102, 102, 102, 102, 102, 102, 102, 102, 102, 102, 102, 102, 102, 102, 102, 102, 102, 101, 102, 102, 102, 102, 102, 102, 102, 102, 48, 48, 48, 48, 48, 48, 48, 48, 48, 48, 48, 48, 48, 48, 48, 48, 102, 102, 102, 102, 102, 102, 102, 102]
def hb384 : List UInt8 := [98, 51, 51, 49, 50, 102, 97, 55, 101, 50, 51, 101, 101, 55, 101, 52, 57, 56, 56, 101, 48, 53, 54, 98, 101, 51, 102, 56, 50, 100, 49, 57, 49, 56, 49, 100, 57, 99, 54, 101, 102, 101, 56, 49, 52, 49, 49, 50, 48, 51, 49, 52, 48, 56, 56, 102, 53, 48, 49, 51, 56, 55, 53, 97, 99, 54, 53, 54, 51, 57, 56, 100, 56, 97, 50, 101, 100, 49, 57, 100, 50, 97, 56, 53, 99, 56, 101, 100, 100, 51, 101, 99, 50, 97, 101, 102]
def hn384 : List UInt8 := [102, 102, 102, 102, 102, 102, 102, 102, 102, 102, 102, 102, 102, 102, 102, 102, 102, 102, 102, 102, 102, 102, 102, 102, 102, 102, 102, 102, 102, 102, 102, 102, 102, 102, 102, 102, 102, 102, 102, 102, 102, 102, 102, 102, 102, 102, 102, 102, 99, 55, 54, 51, 52, 100, 56, 49, 102, 52, 51, 55, 50, 100, 100, 102, 53, 56, 49, 97, 48, 100, 98, 50, 52, 56, 98, 48, 97, 55, 55, 97, 101, 99, 101, 99, 49, 57, 54, 97, 99, 99, 99, 53, 50, 57, 55, 51]
def hx384 : List UInt8 := [97, 97, 56, 55, 99, 97, 50, 50, 98, 101, 56, 98, 48, 53, 51, 55, 56, 101, 98, 49, 99, 55, 49, 101, 102, 51, 50, 48, 97, 100, 55, 52, 54, 101, 49, 100, 51, 98, 54, 50, 56, 98, 97, 55, 57, 98, 57, 56, 53, 57, 102, 55, 52, 49, 101, 48, 56, 50, 53, 52, 50, 97, 51, 56, 53, 53, 48, 50, 102, 50, 53, 100, 98, 102, 53, 53, 50, 57, 54, 99, 51, 97, 53, 52, 53, 101, 51, 56, 55, 50, 55, 54, 48, 97, 98, 55]
def hy384 : List UInt8 := [51, 54, 49, 55, 100, 101, 52, 97, 57, 54, 50, 54, 50, 99, 54, 102, 53, 100, 57, 101, 57, 56, 98, 102, 57, 50, 57, 50, 100, 99, 50, 57, 102, 56, 102, 52, 49, 100, 98, 100, 50, 56, 57, 97, 49, 52, 55, 99, 101, 57, 100, 97, 51, 49, 49, 51, 98, 53, 102, 48, 98, 56, 99, 48, 48, 97, 54, 48, 98, 49, 99, 101, 49, 100, 55, 101, 56, 49, 57, 100, 55, 97, 52, 51, 49, 100, 55, 99, 57, 48, 101, 97, 48, 101, 53, 102]
def SCbf : FuncId → List V → Option (List Prop × Bool × V) := fun f args =>
  if f = 90 then match args with
    | [.str t] => some ([t.length ≤ 1000, t.length ≠ 0, hexB t = true], false, pN (hexN t))
    | _ => none
  else none
def SCb (J : Inv) : Sig := ⟨J, sdf, SCbf, noH, 0⟩
theorem SCb_ok (J : Inv) : SigOk Tryz.prog (SCb J) := by
  refine .plain fun f args l fr r h hl => ?_
  change SCbf f args = some (l, fr, r) at h
  unfold SCbf at h
  split at h
  · rename_i hf; subst hf
    split at h
    · rename_i t
      obtain ⟨rfl, rfl, rfl⟩ := jsome_tri h
      obtain ⟨c0, c1, c2, -⟩ := hl.un
      have hp := number16_fn J t c0 c1 (hexB_ok c2)
      exact hp
    · exact absurd h (by simp)
  · exact absurd h (by simp)
def SCbb (J : Inv) (b : Nat) : Sig := ⟨J, sdf, SCbf, noH, b⟩
theorem SCbb_ok (J : Inv) (b : Nat) : SigOk Tryz.prog (SCbb J b) := ⟨(SCb_ok J ).1, (SCb_ok J ).2⟩
/-- One of the two curves. -/
def stepV : V := .val (.func (.func 91) #[] #[])
def grV (p b n x y : List UInt8) (size : Nat) : V := .pe (.sq 7 .any [.st [pN (hexN p), pN (hexN b), pN (hexN n), pN (hexN x), pN (hexN y), .i size, stepV]]) 0 0
theorem p256_fn (J : Inv) : Fn Tryz.prog J 54 false [] (grV hp256 hb256 hn256 hx256 hy256 32) := by
  refine Fn.of_box (k := 0) (nx := 1) (ty := 56) (post := [(0, .box 56 (.st [pN (hexN hp256), pN (hexN hb256), pN (hexN hn256), pN (hexN hx256), pN (hexN hy256), .i 32, stepV]))]) ?_ rfl (by simp [clL, V.cl, V.i, stepV, pN, wV, wds_cl]) (by simp)
  refine fnH_intro Tryz.func54 rfl (by kernel_rfl) (Nat.le_of_ble_eq_true (by kernel_rfl)) (by kernel_rfl) (by kernel_rfl) (SCbb_ok J 0) rfl ?_
  unfold Tryz.f54
  simp only [↓Br_t, ↓Br_f, ↓Brg_t, ↓Brg_f, bnC, Kseq_app, Nat.reduceMul, Nat.reduceLeDiff, Nat.reduceEqDiff, Nat.reduceLT, Nat.reduceAdd, Nat.reduceSub, ↓reduceIte, implies_true, reduceCtorEq, ne_eq, ↓shr_eq, IntKind.bits, Int.reduceToNat, Int.reducePow, dite_eq_ite, Value.oneCell', Nat.reduceBEq, Nat.reduceDiv, bnS, bnN, bnT, spB, vl_dg, W32_dg, unW_wds, wV, sdf, wds_nil, SCbb, SCbf, pN]
  refine ⟨by kernel_rfl, by kernel_rfl, by kernel_rfl, by kernel_rfl, by kernel_rfl, .inl ?_⟩
  simp only [↓Br_t, ↓Br_f, ↓Brg_t, ↓Brg_f, bnC, Kseq_app, Nat.reduceMul, Nat.reduceLeDiff, Nat.reduceEqDiff, Nat.reduceLT, Nat.reduceAdd, Nat.reduceSub, ↓reduceIte, implies_true, reduceCtorEq, ne_eq, ↓shr_eq, IntKind.bits, Int.reduceToNat, Int.reducePow, dite_eq_ite, Value.oneCell', Nat.reduceBEq, Nat.reduceDiv, bnS, bnN, bnT, spB, vl_dg, W32_dg, unW_wds, wV, sdf, wds_nil, hp256, hb256, hn256, hx256, hy256, stepV]
theorem p384_fn (J : Inv) : Fn Tryz.prog J 55 false [] (grV hp384 hb384 hn384 hx384 hy384 48) := by
  refine Fn.of_box (k := 0) (nx := 1) (ty := 56) (post := [(0, .box 56 (.st [pN (hexN hp384), pN (hexN hb384), pN (hexN hn384), pN (hexN hx384), pN (hexN hy384), .i 48, stepV]))]) ?_ rfl (by simp [clL, V.cl, V.i, stepV, pN, wV, wds_cl]) (by simp)
  refine fnH_intro Tryz.func55 rfl (by kernel_rfl) (Nat.le_of_ble_eq_true (by kernel_rfl)) (by kernel_rfl) (by kernel_rfl) (SCbb_ok J 0) rfl ?_
  unfold Tryz.f55
  simp only [↓Br_t, ↓Br_f, ↓Brg_t, ↓Brg_f, bnC, Kseq_app, Nat.reduceMul, Nat.reduceLeDiff, Nat.reduceEqDiff, Nat.reduceLT, Nat.reduceAdd, Nat.reduceSub, ↓reduceIte, implies_true, reduceCtorEq, ne_eq, ↓shr_eq, IntKind.bits, Int.reduceToNat, Int.reducePow, dite_eq_ite, Value.oneCell', Nat.reduceBEq, Nat.reduceDiv, bnS, bnN, bnT, spB, vl_dg, W32_dg, unW_wds, wV, sdf, wds_nil, SCbb, SCbf, pN, List.append_eq, List.cons_append, List.nil_append]
  refine ⟨by kernel_rfl, by kernel_rfl, by kernel_rfl, by kernel_rfl, by kernel_rfl, .inl ?_⟩
  simp only [↓Br_t, ↓Br_f, ↓Brg_t, ↓Brg_f, bnC, Kseq_app, Nat.reduceMul, Nat.reduceLeDiff, Nat.reduceEqDiff, Nat.reduceLT, Nat.reduceAdd, Nat.reduceSub, ↓reduceIte, implies_true, reduceCtorEq, ne_eq, ↓shr_eq, IntKind.bits, Int.reduceToNat, Int.reducePow, dite_eq_ite, Value.oneCell', Nat.reduceBEq, Nat.reduceDiv, bnS, bnN, bnT, spB, vl_dg, W32_dg, unW_wds, wV, sdf, wds_nil, hp384, hb384, hn384, hx384, hy384, stepV]
def SCcf : FuncId → List V → Option (List Prop × Bool × V) := fun f args =>
  if f = 54 then match args with
    | [] => some ([], false, grV hp256 hb256 hn256 hx256 hy256 32)
    | _ => none
  else if f = 55 then match args with
    | [] => some ([], false, grV hp384 hb384 hn384 hx384 hy384 48)
    | _ => none
  else none
def SCc (J : Inv) : Sig := ⟨J, sdf, SCcf, noH, 0⟩
theorem SCc_ok (J : Inv) : SigOk Tryz.prog (SCc J) := by
  refine .plain fun f args l fr r h hl => ?_
  change SCcf f args = some (l, fr, r) at h
  unfold SCcf at h
  split at h
  · rename_i hf; subst hf
    split at h
    · obtain ⟨rfl, rfl, rfl⟩ := jsome_tri h
      have hp := p256_fn J
      exact hp
    · exact absurd h (by simp)
  · split at h
    · rename_i hf; subst hf
      split at h
      · obtain ⟨rfl, rfl, rfl⟩ := jsome_tri h
        have hp := p384_fn J
        exact hp
      · exact absurd h (by simp)
    · exact absurd h (by simp)
def ofV (c : Int) : V := if c = 1 then grV hp256 hb256 hn256 hx256 hy256 32 else if c = 2 then grV hp384 hb384 hn384 hx384 hy384 48 else .val (.pointer none)
theorem grV_cl (p b n x y : List UInt8) (size : Nat) : (grV p b n x y size).cl = true := by simp [grV, clL, V.cl, V.i, stepV, pN, wV, wds_cl]
theorem of1_fn (J : Inv) : Fn Tryz.prog J 26 false [.i 1] (grV hp256 hb256 hn256 hx256 hy256 32) := by
  refine fn_intro Tryz.func26 rfl (by kernel_rfl) (Nat.le_of_ble_eq_true (by kernel_rfl)) (by kernel_rfl) (by kernel_rfl) (grV_cl ..) (SCc_ok J) ?_
  unfold Tryz.f26
  simp only [↓Br_t, ↓Br_f, ↓Brg_t, ↓Brg_f, bnC, Kseq_app, Nat.reduceMul, Nat.reduceLeDiff, Nat.reduceEqDiff, Nat.reduceLT, Nat.reduceAdd, Nat.reduceSub, ↓reduceIte, implies_true, reduceCtorEq, ne_eq, ↓shr_eq, IntKind.bits, Int.reduceToNat, Int.reducePow, dite_eq_ite, Value.oneCell', Nat.reduceBEq, Nat.reduceDiv, bnS, bnN, bnT, spB, vl_dg, W32_dg, unW_wds, wV, sdf, wds_nil, SCc, SCcf, grV, pN, stepV, show ((2 : Int) == 1) = false from rfl, show ((2 : Int) == 2) = true from rfl]
  skip
theorem of2_fn (J : Inv) : Fn Tryz.prog J 26 false [.i 2] (grV hp384 hb384 hn384 hx384 hy384 48) := by
  refine fn_intro Tryz.func26 rfl (by kernel_rfl) (Nat.le_of_ble_eq_true (by kernel_rfl)) (by kernel_rfl) (by kernel_rfl) (grV_cl ..) (SCc_ok J) ?_
  unfold Tryz.f26
  simp only [↓Br_t, ↓Br_f, ↓Brg_t, ↓Brg_f, bnC, Kseq_app, Nat.reduceMul, Nat.reduceLeDiff, Nat.reduceEqDiff, Nat.reduceLT, Nat.reduceAdd, Nat.reduceSub, ↓reduceIte, implies_true, reduceCtorEq, ne_eq, ↓shr_eq, IntKind.bits, Int.reduceToNat, Int.reducePow, dite_eq_ite, Value.oneCell', Nat.reduceBEq, Nat.reduceDiv, bnS, bnN, bnT, spB, vl_dg, W32_dg, unW_wds, wV, sdf, wds_nil, SCc, SCcf, grV, pN, stepV, show ((2 : Int) == 1) = false from rfl, show ((2 : Int) == 2) = true from rfl]
  skip
theorem of0_fn (J : Inv) (c : Int) (h1 : c ≠ 1) (h2 : c ≠ 2) : Fn Tryz.prog J 26 false [.val (.int .i64 c)] (.val (.pointer none)) := by
  refine fn_intro Tryz.func26 rfl (by kernel_rfl) (Nat.le_of_ble_eq_true (by kernel_rfl)) (by kernel_rfl) (by kernel_rfl) rfl (SCc_ok J) ?_
  unfold Tryz.f26
  have e1 : (c == 1) = false := by rw [beq_eq_false_iff_ne]; exact h1
  have e2 : (c == 2) = false := by rw [beq_eq_false_iff_ne]; exact h2
  simp only [↓Br_t, ↓Br_f, ↓Brg_t, ↓Brg_f, bnC, Kseq_app, Nat.reduceMul, Nat.reduceLeDiff, Nat.reduceEqDiff, Nat.reduceLT, Nat.reduceAdd, Nat.reduceSub, ↓reduceIte, implies_true, reduceCtorEq, ne_eq, ↓shr_eq, IntKind.bits, Int.reduceToNat, Int.reducePow, dite_eq_ite, Value.oneCell', Nat.reduceBEq, Nat.reduceDiv, bnS, bnN, bnT, spB, vl_dg, W32_dg, unW_wds, wV, sdf, wds_nil, SCc, SCcf, e1, e2]
theorem of_fn (J : Inv) (c : Int) : Fn Tryz.prog J 26 false [.val (.int .i64 c)] (ofV c) := by
  unfold ofV
  by_cases h1 : c = 1
  · rw [if_pos h1]; subst h1; exact of1_fn J
  · rw [if_neg h1]
    by_cases h2 : c = 2
    · rw [if_pos h2]; subst h2; exact of2_fn J
    · rw [if_neg h2]; exact of0_fn J c h1 h2
end Go.Proofs.YtmpklnhmempmgaaGreatDoor
