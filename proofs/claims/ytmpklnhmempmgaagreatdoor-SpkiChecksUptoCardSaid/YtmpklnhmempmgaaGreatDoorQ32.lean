/- The curves P-256 and P-384 (curve): sums and products modulo the prime; is a point on the curve? -/
import Derived.Test.YtmpklnhmempmgaaGreatDoorQ31
namespace Go.Proofs.YtmpklnhmempmgaaGreatDoor
open Go.RowKit
set_option linter.unusedSimpArgs false
set_option maxRecDepth 100000
def gV (p b : Nat) (gN gX gY gS gF : V) : V := .pe (.sq 7 .any [.st [pN p, pN b, gN, gX, gY, gS, gF]]) 0 0
def SDah : FuncId → List V → List (Nat × Ob) → Nat → Option CallH := fun f args h nx =>
  if f = 95 then match args with
    | [.op k 0, .op kq1 0, .pe (.sq 2 .any [.st [.bb false, .sq 1 dy Ly]]) 0 0] => (match Hroot h k with | some (.box tyk (.st [.bb bx, .sq 1 dx Lx])) => some ⟨[k = kq1, dy = .val (.int .u32 0), Ly = wds (dg (vl (unW Ly))), tyk = 59, dx = .val (.int .u32 0), Lx = wds (dg (vl (unW Lx))), k < nx, (dg (vl (unW Lx))).length ≤ 90000, (dg (vl (unW Ly))).length ≤ 90000, 3 ≤ (dg (vl (unW Ly))).length], [], [(k, .box 59 (bI bx (vl (unW Lx))))], .op k 0, [(k, .box 59 (bI false (modS bx (vl (unW Lx)) (vl (unW Ly)))))], nx + 2⟩ | _ => none)
    | _ => none
  else none
theorem SDah_ok (J : Inv) (f : FuncId) (args : List V) (h : List (Nat × Ob)) (nx : Nat) (c : CallH) (hc : SDah f args h nx = some c) (hl : AllP c.l) : FnH Tryz.prog J f (mixA h c.bw args).1 c.pre nx c.res c.post c.nx := by
  unfold SDah at hc
  split at hc
  · rename_i hf; subst hf
    split at hc
    · rename_i k kq1 dy Ly
      split at hc
      · rename_i tyk bx dx Lx hk0
        obtain rfl := Option.some.inj hc
        obtain ⟨ekq1, qdy, qly, qtk, qdx, qlx, c0, c1, c2, c3, -⟩ := hl.un
        clear hl
        subst ekq1 qdy qtk qdx
        obtain ⟨y, rfl⟩ : ∃ z, Ly = wds (dg z) := ⟨_, qly⟩
        obtain ⟨x, rfl⟩ : ∃ z, Lx = wds (dg z) := ⟨_, qlx⟩
        try simp only [unW_wds, vl_dg] at c0
        try simp only [unW_wds, vl_dg] at c1
        try simp only [unW_wds, vl_dg] at c2
        try simp only [unW_wds, vl_dg] at c3
        simp only [unW_wds, vl_dg]
        exact bMod_fn J k nx c0 bx x y c1 c2 c3
      · exact absurd hc (by simp)
    · exact absurd hc (by simp)
  · exact absurd hc (by simp)
def SDa (J : Inv) (b : Nat) : Sig := ⟨J, sdf, SBsf, SDah, b⟩
theorem SDa_ok (J : Inv) (b : Nat) : SigOk Tryz.prog (SDa J b) := ⟨(SBs_ok J).1, SDah_ok J⟩
section
variable (J : Inv) (p b : Nat) (gN gX gY gS gF : V) (hp : (dg p).length ≤ 100) (hp3 : 3 ≤ (dg p).length)
include hp hp3
theorem gmod_fn (k nx : Nat) (h1 : k < nx) (bx : Bool) (x : Nat) (hx : (dg x).length ≤ 1000) : FnH Tryz.prog J 59 [gV p b gN gX gY gS gF, .op k 0] [(k, .box 59 (bI bx x))] nx (.op k 0) [(k, .box 59 (bI false (modS bx x p)))] (nx + 2) := by
  refine fnH_intro Tryz.func59 rfl (by kernel_rfl) (Nat.le_of_ble_eq_true (by kernel_rfl)) (by kernel_rfl) (by kernel_rfl) (SDa_ok J nx) rfl ?_
  unfold Tryz.f59
  simp only [↓Br_t, ↓Br_f, ↓Brg_t, ↓Brg_f, bnC, Kseq_app, Nat.reduceMul, Nat.reduceLeDiff, Nat.reduceEqDiff, Nat.reduceLT, Nat.reduceAdd, Nat.reduceSub, ↓reduceIte, implies_true, reduceCtorEq, ne_eq, ↓shr_eq, IntKind.bits, Int.reduceToNat, Int.reducePow, dite_eq_ite, Value.oneCell', Nat.reduceBEq, Nat.reduceDiv, bnS, bnN, bnT, spB, vl_dg, W32_dg, unW_wds, wV, sdf, wds_nil, SDa, SBsf, SBnf, SBmf, SDah, gV, pN, bI]
  refine ⟨h1, by omega, by omega, hp3, .inl ?_⟩
  simp only [↓Br_t, ↓Br_f, ↓Brg_t, ↓Brg_f, bnC, Kseq_app, Nat.reduceMul, Nat.reduceLeDiff, Nat.reduceEqDiff, Nat.reduceLT, Nat.reduceAdd, Nat.reduceSub, ↓reduceIte, implies_true, reduceCtorEq, ne_eq, ↓shr_eq, IntKind.bits, Int.reduceToNat, Int.reducePow, dite_eq_ite, Value.oneCell', Nat.reduceBEq, Nat.reduceDiv, bnS, bnN, bnT, spB, vl_dg, W32_dg, unW_wds, wV, sdf, wds_nil]
  exact Nat.le_refl _
end
def SDbh : FuncId → List V → List (Nat × Ob) → Nat → Option CallH := fun f args h nx =>
  if f = 59 then match args with
    | [.pe (.sq 7 .any [.st [.pe (.sq 2 .any [.st [.bb false, .sq 1 dp Lp]]) 0 0, .pe (.sq 2 .any [.st [.bb false, .sq 1 db Lb]]) 0 0, _, _, _, _, _]]) 0 0, .op k 0] => (match Hroot h k with | some (.box tyk (.st [.bb bx, .sq 1 dx Lx])) => some ⟨[dp = .val (.int .u32 0), Lp = wds (dg (vl (unW Lp))), db = .val (.int .u32 0), Lb = wds (dg (vl (unW Lb))), tyk = 59, dx = .val (.int .u32 0), Lx = wds (dg (vl (unW Lx))), k < nx, (dg (vl (unW Lp))).length ≤ 100, 3 ≤ (dg (vl (unW Lp))).length, (dg (vl (unW Lx))).length ≤ 1000], [], [(k, .box 59 (bI bx (vl (unW Lx))))], .op k 0, [(k, .box 59 (bI false (modS bx (vl (unW Lx)) (vl (unW Lp)))))], nx + 2⟩ | _ => none)
    | _ => none
  else if f = 92 then match args with
    | [.op k 0, .pe (.sq 2 .any [.st [.bb false, .sq 1 dx Lx]]) 0 0, .pe (.sq 2 .any [.st [.bb false, .sq 1 dy Ly]]) 0 0] => (match Hroot h k with | some (.box tyk (.st [bk, vk])) => some ⟨[dx = .val (.int .u32 0), Lx = wds (dg (vl (unW Lx))), dy = .val (.int .u32 0), Ly = wds (dg (vl (unW Ly))), tyk = 59, (dg (vl (unW Lx))).length ≤ 100000, (dg (vl (unW Ly))).length ≤ 100000], [], [(k, .box 59 (.st [bk, vk]))], .op k 0, [(k, .box 59 (bI false ((vl (unW Lx)) * (vl (unW Ly)))))], nx⟩ | _ => none)
    | _ => none
  else if f = 93 then match args with
    | [.op k 0, .pe (.sq 2 .any [.st [.bb false, .sq 1 dx Lx]]) 0 0, .pe (.sq 2 .any [.st [.bb false, .sq 1 dy Ly]]) 0 0] => (match Hroot h k with | some (.box tyk (.st [bk, vk])) => some ⟨[dx = .val (.int .u32 0), Lx = wds (dg (vl (unW Lx))), dy = .val (.int .u32 0), Ly = wds (dg (vl (unW Ly))), tyk = 59, (dg (vl (unW Lx))).length ≤ 100000, (dg (vl (unW Ly))).length ≤ 100000], [], [(k, .box 59 (.st [bk, vk]))], .op k 0, [(k, .box 59 (bI (decide ((vl (unW Lx)) < (vl (unW Ly)))) (if (vl (unW Ly)) ≤ (vl (unW Lx)) then (vl (unW Lx)) - (vl (unW Ly)) else (vl (unW Ly)) - (vl (unW Lx)))))], nx⟩ | _ => none)
    | _ => none
  else none
theorem SDbh_ok (J : Inv) (f : FuncId) (args : List V) (h : List (Nat × Ob)) (nx : Nat) (c : CallH) (hc : SDbh f args h nx = some c) (hl : AllP c.l) : FnH Tryz.prog J f (mixA h c.bw args).1 c.pre nx c.res c.post c.nx := by
  unfold SDbh at hc
  split at hc
  · rename_i hf; subst hf
    split at hc
    · rename_i dp Lp db Lb gN gX gY gS gF k
      split at hc
      · rename_i tyk bx dx Lx hk0
        obtain rfl := Option.some.inj hc
        obtain ⟨qdp, qlp, qdb, qlb, qtk, qdx, qlx, c0, c1, c2, c3, -⟩ := hl.un
        clear hl
        subst qdp qdb qtk qdx
        obtain ⟨p, rfl⟩ : ∃ z, Lp = wds (dg z) := ⟨_, qlp⟩
        obtain ⟨b, rfl⟩ : ∃ z, Lb = wds (dg z) := ⟨_, qlb⟩
        obtain ⟨x, rfl⟩ : ∃ z, Lx = wds (dg z) := ⟨_, qlx⟩
        try simp only [unW_wds, vl_dg] at c0
        try simp only [unW_wds, vl_dg] at c1
        try simp only [unW_wds, vl_dg] at c2
        try simp only [unW_wds, vl_dg] at c3
        simp only [unW_wds, vl_dg]
        exact gmod_fn J p b gN gX gY gS gF c1 c2 k nx c0 bx x c3
      · exact absurd hc (by simp)
    · exact absurd hc (by simp)
  · split at hc
    · rename_i hf; subst hf
      split at hc
      · rename_i k dx Lx dy Ly
        split at hc
        · rename_i tyk bk vk hk0
          obtain rfl := Option.some.inj hc
          obtain ⟨qdx, qlx, qdy, qly, qtk, c0, c1, -⟩ := hl.un
          clear hl
          subst qdx qdy qtk
          obtain ⟨x, rfl⟩ : ∃ z, Lx = wds (dg z) := ⟨_, qlx⟩
          obtain ⟨y, rfl⟩ : ∃ z, Ly = wds (dg z) := ⟨_, qly⟩
          try simp only [unW_wds, vl_dg] at c0
          try simp only [unW_wds, vl_dg] at c1
          simp only [unW_wds, vl_dg]
          exact bMul_fn J k nx bk vk x y c0 c1
        · exact absurd hc (by simp)
      · exact absurd hc (by simp)
    · split at hc
      · rename_i hf; subst hf
        split at hc
        · rename_i k dx Lx dy Ly
          split at hc
          · rename_i tyk bk vk hk0
            obtain rfl := Option.some.inj hc
            obtain ⟨qdx, qlx, qdy, qly, qtk, c0, c1, -⟩ := hl.un
            clear hl
            subst qdx qdy qtk
            obtain ⟨x, rfl⟩ : ∃ z, Lx = wds (dg z) := ⟨_, qlx⟩
            obtain ⟨y, rfl⟩ : ∃ z, Ly = wds (dg z) := ⟨_, qly⟩
            try simp only [unW_wds, vl_dg] at c0
            try simp only [unW_wds, vl_dg] at c1
            simp only [unW_wds, vl_dg]
            exact bSub_fn J k nx bk vk x y c0 c1
          · exact absurd hc (by simp)
        · exact absurd hc (by simp)
      · exact absurd hc (by simp)
def SDb (J : Inv) (b : Nat) : Sig := ⟨J, sdf, SBsf, SDbh, b⟩
theorem SDb_ok (J : Inv) (b : Nat) : SigOk Tryz.prog (SDb J b) := ⟨(SBs_ok J).1, SDbh_ok J⟩
def gsub (x y p : Nat) : Nat := modS (decide (x < y)) (if y ≤ x then x - y else y - x) p
theorem modS_false (x p : Nat) : modS false x p = x % p := by unfold modS; rw [if_neg (by simp)]
section
variable (J : Inv) (p b : Nat) (gN gX gY gS gF : V) (hp : (dg p).length ≤ 100) (hp3 : 3 ≤ (dg p).length)
include hp hp3
theorem gmulH_fn (nx x y : Nat) (hx : (dg x).length ≤ 200) (hy : (dg y).length ≤ 200) : FnH Tryz.prog J 56 [gV p b gN gX gY gS gF, pN x, pN y] [] nx (.op nx 0) [(nx, .box 59 (bI false (x * y % p)))] (nx + 3) := by
  refine fnH_intro Tryz.func56 rfl (by kernel_rfl) (Nat.le_of_ble_eq_true (by kernel_rfl)) (by kernel_rfl) (by kernel_rfl) (SDb_ok J nx) rfl ?_
  unfold Tryz.f56
  simp only [↓Br_t, ↓Br_f, ↓Brg_t, ↓Brg_f, bnC, Kseq_app, Nat.reduceMul, Nat.reduceLeDiff, Nat.reduceEqDiff, Nat.reduceLT, Nat.reduceAdd, Nat.reduceSub, ↓reduceIte, implies_true, reduceCtorEq, ne_eq, ↓shr_eq, IntKind.bits, Int.reduceToNat, Int.reducePow, dite_eq_ite, Value.oneCell', Nat.reduceBEq, Nat.reduceDiv, bnS, bnN, bnT, spB, vl_dg, W32_dg, unW_wds, wV, sdf, wds_nil, SDb, SBsf, SBnf, SBmf, SDbh, gV, pN, bI, modS_false]
  have hl := dg_prod_len hx hy
  refine ⟨by omega, by omega, by omega, hp, hp3, by omega, .inl ?_⟩
  simp only [↓Br_t, ↓Br_f, ↓Brg_t, ↓Brg_f, bnC, Kseq_app, Nat.reduceMul, Nat.reduceLeDiff, Nat.reduceEqDiff, Nat.reduceLT, Nat.reduceAdd, Nat.reduceSub, ↓reduceIte, implies_true, reduceCtorEq, ne_eq, ↓shr_eq, IntKind.bits, Int.reduceToNat, Int.reducePow, dite_eq_ite, Value.oneCell', Nat.reduceBEq, Nat.reduceDiv, bnS, bnN, bnT, spB, vl_dg, W32_dg, unW_wds, wV, sdf, wds_nil]
  exact Nat.le_refl _
theorem gsubH_fn (nx x y : Nat) (hx : (dg x).length ≤ 200) (hy : (dg y).length ≤ 200) : FnH Tryz.prog J 57 [gV p b gN gX gY gS gF, pN x, pN y] [] nx (.op nx 0) [(nx, .box 59 (bI false (gsub x y p)))] (nx + 3) := by
  refine fnH_intro Tryz.func57 rfl (by kernel_rfl) (Nat.le_of_ble_eq_true (by kernel_rfl)) (by kernel_rfl) (by kernel_rfl) (SDb_ok J nx) rfl ?_
  unfold Tryz.f57
  simp only [↓Br_t, ↓Br_f, ↓Brg_t, ↓Brg_f, bnC, Kseq_app, Nat.reduceMul, Nat.reduceLeDiff, Nat.reduceEqDiff, Nat.reduceLT, Nat.reduceAdd, Nat.reduceSub, ↓reduceIte, implies_true, reduceCtorEq, ne_eq, ↓shr_eq, IntKind.bits, Int.reduceToNat, Int.reducePow, dite_eq_ite, Value.oneCell', Nat.reduceBEq, Nat.reduceDiv, bnS, bnN, bnT, spB, vl_dg, W32_dg, unW_wds, wV, sdf, wds_nil, SDb, SBsf, SBnf, SBmf, SDbh, gV, pN, bI]
  have hl : (dg (if y ≤ x then x - y else y - x)).length ≤ 1000 := by
    split
    · have := dg_mono (Nat.sub_le x y); omega
    · have := dg_mono (Nat.sub_le y x); omega
  refine ⟨by omega, by omega, by omega, hp, hp3, hl, .inl ?_⟩
  simp only [↓Br_t, ↓Br_f, ↓Brg_t, ↓Brg_f, bnC, Kseq_app, Nat.reduceMul, Nat.reduceLeDiff, Nat.reduceEqDiff, Nat.reduceLT, Nat.reduceAdd, Nat.reduceSub, ↓reduceIte, implies_true, reduceCtorEq, ne_eq, ↓shr_eq, IntKind.bits, Int.reduceToNat, Int.reducePow, dite_eq_ite, Value.oneCell', Nat.reduceBEq, Nat.reduceDiv, bnS, bnN, bnT, spB, vl_dg, W32_dg, unW_wds, wV, sdf, wds_nil, gsub]
  exact Nat.le_refl _
theorem gmul_fn (x y : Nat) (hx : (dg x).length ≤ 200) (hy : (dg y).length ≤ 200) : Fn Tryz.prog J 56 false [gV p b gN gX gY gS gF, pN x, pN y] (pN (x * y % p)) :=
  Fn.of_box (k := 0) (ty := 59) (gmulH_fn J p b gN gX gY gS gF hp hp3 0 x y hx hy) rfl (by simp [clL, V.cl, wV, wds_cl]) (by simp)
end
def SDcf : FuncId → List V → Option (List Prop × Bool × V) := fun f args =>
  if f = 56 then match args with
    | [.pe (.sq 7 .any [.st [.pe (.sq 2 .any [.st [.bb false, .sq 1 dp Lp]]) 0 0, .pe (.sq 2 .any [.st [.bb false, .sq 1 db Lb]]) 0 0, _, _, _, _, _]]) 0 0, .pe (.sq 2 .any [.st [.bb false, .sq 1 dx Lx]]) 0 0, .pe (.sq 2 .any [.st [.bb false, .sq 1 dy Ly]]) 0 0] => some ([dp = .val (.int .u32 0), Lp = wds (dg (vl (unW Lp))), db = .val (.int .u32 0), Lb = wds (dg (vl (unW Lb))), dx = .val (.int .u32 0), Lx = wds (dg (vl (unW Lx))), dy = .val (.int .u32 0), Ly = wds (dg (vl (unW Ly))), (dg (vl (unW Lp))).length ≤ 100, 3 ≤ (dg (vl (unW Lp))).length, (dg (vl (unW Lx))).length ≤ 200, (dg (vl (unW Ly))).length ≤ 200], false, pN ((vl (unW Lx)) * (vl (unW Ly)) % (vl (unW Lp))))
    | _ => none
  else if f = 94 then match args with
    | [.val (.int .i64 n)] => some ([0 ≤ n, n < 9223372036854775808], false, pN n.toNat)
    | _ => none
  else none
def SDc (J : Inv) : Sig := ⟨J, sdf, SDcf, noH, 0⟩
theorem SDc_ok (J : Inv) : SigOk Tryz.prog (SDc J) := by
  refine .plain fun f args l fr r h hl => ?_
  change SDcf f args = some (l, fr, r) at h
  unfold SDcf at h
  split at h
  · rename_i hf; subst hf
    split at h
    · rename_i dp Lp db Lb gN gX gY gS gF dx Lx dy Ly
      obtain ⟨rfl, rfl, rfl⟩ := jsome_tri h
      obtain ⟨qdp, qlp, qdb, qlb, qdx, qlx, qdy, qly, c0, c1, c2, c3, -⟩ := hl.un
      subst qdp qdb qdx qdy
      clear hl
      obtain ⟨p, rfl⟩ : ∃ z, Lp = wds (dg z) := ⟨_, qlp⟩
      obtain ⟨b, rfl⟩ : ∃ z, Lb = wds (dg z) := ⟨_, qlb⟩
      obtain ⟨x, rfl⟩ : ∃ z, Lx = wds (dg z) := ⟨_, qlx⟩
      obtain ⟨y, rfl⟩ : ∃ z, Ly = wds (dg z) := ⟨_, qly⟩
      try simp only [unW_wds, vl_dg] at c0
      try simp only [unW_wds, vl_dg] at c1
      try simp only [unW_wds, vl_dg] at c2
      try simp only [unW_wds, vl_dg] at c3
      simp only [unW_wds, vl_dg]
      have hp := gmul_fn J p b gN gX gY gS gF c0 c1 x y c2 c3
      exact hp
    · exact absurd h (by simp)
  · split at h
    · rename_i hf; subst hf
      split at h
      · rename_i n
        obtain ⟨rfl, rfl, rfl⟩ := jsome_tri h
        obtain ⟨c0, c1, -⟩ := hl.un
        have hp := (by have h := newInt_fn J n.toNat (by omega); rwa [show V.i (n.toNat : Int) = .val (.int .i64 n) by unfold V.i; rw [Int.toNat_of_nonneg c0]] at h)
        exact hp
      · exact absurd h (by simp)
    · exact absurd h (by simp)
def gcl (gN gX gY gS gF : V) : Bool := gN.cl && (gX.cl && (gY.cl && (gS.cl && gF.cl)))
theorem gtimes_fn (J : Inv) (p b : Nat) (gN gX gY gS gF : V) (hp : (dg p).length ≤ 100) (hp3 : 3 ≤ (dg p).length) (hg : gcl gN gX gY gS gF = true) (n x : Nat) (hn : n < 4294967296) (hx : (dg x).length ≤ 200) : Fn Tryz.prog J 58 false [gV p b gN gX gY gS gF, .i n, pN x] (pN (n * x % p)) := by
  unfold gcl at hg
  refine fn_intro Tryz.func58 rfl (by kernel_rfl) (Nat.le_of_ble_eq_true (by kernel_rfl)) (by kernel_rfl) (by kernel_rfl) (by simp [V.cl, clL, pN, wV, wds_cl]) (SDc_ok J) ?_
  unfold Tryz.f58
  simp only [↓Br_t, ↓Br_f, ↓Brg_t, ↓Brg_f, bnC, Kseq_app, Nat.reduceMul, Nat.reduceLeDiff, Nat.reduceEqDiff, Nat.reduceLT, Nat.reduceAdd, Nat.reduceSub, ↓reduceIte, implies_true, reduceCtorEq, ne_eq, ↓shr_eq, IntKind.bits, Int.reduceToNat, Int.reducePow, dite_eq_ite, Value.oneCell', Nat.reduceBEq, Nat.reduceDiv, bnS, bnN, bnT, spB, vl_dg, W32_dg, unW_wds, wV, sdf, wds_nil, SDc, SDcf, gV, pN, hg]
  have l1 : (dg n).length ≤ 1 := dg_len (by omega)
  exact ⟨by omega, by omega, hp, hp3, by omega, hx⟩
theorem bCmpO_fn (J : Inv) (k nx : Nat) (x y : Nat) (hx : (dg x).length ≤ 100000) (hy : (dg y).length ≤ 100000) : FnH Tryz.prog J 61 [pN x, .op k 0] [(k, .box 59 (bI false y))] nx (.i (cmp3 x y)) [(k, .box 59 (bI false y))] nx := by
  refine fnH_intro Tryz.func61 rfl (by kernel_rfl) (Nat.le_of_ble_eq_true (by kernel_rfl)) (by kernel_rfl) (by kernel_rfl) (SBi_ok J nx) rfl ?_
  unfold Tryz.f61
  simp only [↓Br_t, ↓Br_f, ↓Brg_t, ↓Brg_f, bnC, Kseq_app, Nat.reduceMul, Nat.reduceLeDiff, Nat.reduceEqDiff, Nat.reduceLT, Nat.reduceAdd, Nat.reduceSub, ↓reduceIte, implies_true, reduceCtorEq, ne_eq, ↓shr_eq, IntKind.bits, Int.reduceToNat, Int.reducePow, dite_eq_ite, Value.oneCell', Nat.reduceBEq, Nat.reduceDiv, bnS, bnN, bnT, spB, vl_dg, W32_dg, unW_wds, wV, sdf, wds_nil, SBi, SBsf, SBnf, SBmf, SBgh, pN, bI]
  refine DrawC.sch [(0, some []), (1, some []), (2, some []), (3, some []), (4, some []), (5, some []), (6, some []), (7, some []), (8, none), (9, some [])] [] (by kernel_rfl) ?_
  simp only [↓Br_t, ↓Br_f, ↓Brg_t, ↓Brg_f, bnC, Kseq_app, Nat.reduceMul, Nat.reduceLeDiff, Nat.reduceEqDiff, Nat.reduceLT, Nat.reduceAdd, Nat.reduceSub, ↓reduceIte, implies_true, reduceCtorEq, ne_eq, ↓shr_eq, IntKind.bits, Int.reduceToNat, Int.reducePow, dite_eq_ite, Value.oneCell', Nat.reduceBEq, Nat.reduceDiv, bnS, bnN, bnT, spB, vl_dg, W32_dg, unW_wds, wV, sdf, wds_nil, SBi, SBsf, SBnf, SBmf, SBgh, pN, bI]
  refine ⟨.of (by omega), .of (by omega), .inl ?_⟩
  simp only [↓Br_t, ↓Br_f, ↓Brg_t, ↓Brg_f, bnC, Kseq_app, Nat.reduceMul, Nat.reduceLeDiff, Nat.reduceEqDiff, Nat.reduceLT, Nat.reduceAdd, Nat.reduceSub, ↓reduceIte, implies_true, reduceCtorEq, ne_eq, ↓shr_eq, IntKind.bits, Int.reduceToNat, Int.reducePow, dite_eq_ite, Value.oneCell', Nat.reduceBEq, Nat.reduceDiv, bnS, bnN, bnT, spB, vl_dg, W32_dg, unW_wds, wV, sdf, wds_nil]
  exact Nat.le_refl _
def SDdf : FuncId → List V → Option (List Prop × Bool × V) := fun f args =>
  if f = 58 then match args with
    | [.pe (.sq 7 .any [.st [.pe (.sq 2 .any [.st [.bb false, .sq 1 dp Lp]]) 0 0, .pe (.sq 2 .any [.st [.bb false, .sq 1 db Lb]]) 0 0, gN, gX, gY, gS, gF]]) 0 0, .val (.int .i64 n), .pe (.sq 2 .any [.st [.bb false, .sq 1 dx Lx]]) 0 0] => some ([dp = .val (.int .u32 0), Lp = wds (dg (vl (unW Lp))), db = .val (.int .u32 0), Lb = wds (dg (vl (unW Lb))), dx = .val (.int .u32 0), Lx = wds (dg (vl (unW Lx))), (dg (vl (unW Lp))).length ≤ 100, 3 ≤ (dg (vl (unW Lp))).length, gcl gN gX gY gS gF = true, 0 ≤ n, n < 4294967296, (dg (vl (unW Lx))).length ≤ 200], false, pN (n.toNat * (vl (unW Lx)) % (vl (unW Lp))))
    | _ => none
  else if f = 61 then match args with
    | [.pe (.sq 2 .any [.st [.bb false, .sq 1 dx Lx]]) 0 0, .pe (.sq 2 .any [.st [.bb false, .sq 1 dy Ly]]) 0 0] => some ([dx = .val (.int .u32 0), Lx = wds (dg (vl (unW Lx))), dy = .val (.int .u32 0), Ly = wds (dg (vl (unW Ly))), (dg (vl (unW Lx))).length ≤ 100000, (dg (vl (unW Ly))).length ≤ 100000], false, .i (cmp3 (vl (unW Lx)) (vl (unW Ly))))
    | _ => none
  else SDcf f args
def SDd (J : Inv) : Sig := ⟨J, sdf, SDdf, noH, 0⟩
theorem SDd_ok (J : Inv) : SigOk Tryz.prog (SDd J) := by
  refine .plain fun f args l fr r h hl => ?_
  change SDdf f args = some (l, fr, r) at h
  unfold SDdf at h
  split at h
  · rename_i hf; subst hf
    split at h
    · rename_i dp Lp db Lb gN gX gY gS gF n dx Lx
      obtain ⟨rfl, rfl, rfl⟩ := jsome_tri h
      obtain ⟨qdp, qlp, qdb, qlb, qdx, qlx, c0, c1, c2, c3, c4, c5, -⟩ := hl.un
      subst qdp qdb qdx
      clear hl
      obtain ⟨p, rfl⟩ : ∃ z, Lp = wds (dg z) := ⟨_, qlp⟩
      obtain ⟨b, rfl⟩ : ∃ z, Lb = wds (dg z) := ⟨_, qlb⟩
      obtain ⟨x, rfl⟩ : ∃ z, Lx = wds (dg z) := ⟨_, qlx⟩
      try simp only [unW_wds, vl_dg] at c0
      try simp only [unW_wds, vl_dg] at c1
      try simp only [unW_wds, vl_dg] at c2
      try simp only [unW_wds, vl_dg] at c3
      try simp only [unW_wds, vl_dg] at c4
      try simp only [unW_wds, vl_dg] at c5
      simp only [unW_wds, vl_dg]
      have hp := (by have h := gtimes_fn J p b gN gX gY gS gF c0 c1 c2 n.toNat x (by omega) c5; rwa [show V.i (n.toNat : Int) = .val (.int .i64 n) by unfold V.i; rw [Int.toNat_of_nonneg c3]] at h)
      exact hp
    · exact absurd h (by simp)
  · split at h
    · rename_i hf; subst hf
      split at h
      · rename_i dx Lx dy Ly
        obtain ⟨rfl, rfl, rfl⟩ := jsome_tri h
        obtain ⟨qdx, qlx, qdy, qly, c0, c1, -⟩ := hl.un
        subst qdx qdy
        clear hl
        obtain ⟨x, rfl⟩ : ∃ z, Lx = wds (dg z) := ⟨_, qlx⟩
        obtain ⟨y, rfl⟩ : ∃ z, Ly = wds (dg z) := ⟨_, qly⟩
        try simp only [unW_wds, vl_dg] at c0
        try simp only [unW_wds, vl_dg] at c1
        simp only [unW_wds, vl_dg]
        have hp := bCmp_fn J x y c0 c1
        exact hp
      · exact absurd h (by simp)
    · exact (SDc_ok J ).1 f args l fr r h hl
def SDeh : FuncId → List V → List (Nat × Ob) → Nat → Option CallH := fun f args h nx =>
  if f = 57 then match args with
    | [.pe (.sq 7 .any [.st [.pe (.sq 2 .any [.st [.bb false, .sq 1 dp Lp]]) 0 0, .pe (.sq 2 .any [.st [.bb false, .sq 1 db Lb]]) 0 0, _, _, _, _, _]]) 0 0, .pe (.sq 2 .any [.st [.bb false, .sq 1 dx Lx]]) 0 0, .pe (.sq 2 .any [.st [.bb false, .sq 1 dy Ly]]) 0 0] => some ⟨[dp = .val (.int .u32 0), Lp = wds (dg (vl (unW Lp))), db = .val (.int .u32 0), Lb = wds (dg (vl (unW Lb))), dx = .val (.int .u32 0), Lx = wds (dg (vl (unW Lx))), dy = .val (.int .u32 0), Ly = wds (dg (vl (unW Ly))), (dg (vl (unW Lp))).length ≤ 100, 3 ≤ (dg (vl (unW Lp))).length, (dg (vl (unW Lx))).length ≤ 200, (dg (vl (unW Ly))).length ≤ 200], [], [], .op nx 0, [(nx, .box 59 (bI false (gsub (vl (unW Lx)) (vl (unW Ly)) (vl (unW Lp)))))], nx + 3⟩
    | _ => none
  else if f = 60 then match args with
    | [.op k 0, .op kq1 0, .pe (.sq 2 .any [.st [.bb false, .sq 1 dy Ly]]) 0 0] => (match Hroot h k with | some (.box tyk (.st [.bb bx, .sq 1 dx Lx])) => some ⟨[k = kq1, dy = .val (.int .u32 0), Ly = wds (dg (vl (unW Ly))), tyk = 59, dx = .val (.int .u32 0), Lx = wds (dg (vl (unW Lx))), (dg (vl (unW Lx))).length ≤ 100000, (dg (vl (unW Ly))).length ≤ 100000], [], [(k, .box 59 (bI bx (vl (unW Lx))))], .op k 0, [(k, .box 59 (bI (sumB bx (vl (unW Lx)) false (vl (unW Ly)) && decide (0 < (dg (sumN bx (vl (unW Lx)) false (vl (unW Ly)))).length)) (sumN bx (vl (unW Lx)) false (vl (unW Ly)))))], nx⟩ | _ => none)
    | _ => none
  else if f = 59 then match args with
    | [.pe (.sq 7 .any [.st [.pe (.sq 2 .any [.st [.bb false, .sq 1 dp Lp]]) 0 0, .pe (.sq 2 .any [.st [.bb false, .sq 1 db Lb]]) 0 0, _, _, _, _, _]]) 0 0, .op k 0] => (match Hroot h k with | some (.box tyk (.st [.bb bx, .sq 1 dx Lx])) => some ⟨[dp = .val (.int .u32 0), Lp = wds (dg (vl (unW Lp))), db = .val (.int .u32 0), Lb = wds (dg (vl (unW Lb))), tyk = 59, dx = .val (.int .u32 0), Lx = wds (dg (vl (unW Lx))), k < nx, (dg (vl (unW Lp))).length ≤ 100, 3 ≤ (dg (vl (unW Lp))).length, (dg (vl (unW Lx))).length ≤ 1000], [], [(k, .box 59 (bI bx (vl (unW Lx))))], .op k 0, [(k, .box 59 (bI false (modS bx (vl (unW Lx)) (vl (unW Lp)))))], nx + 2⟩ | _ => none)
    | _ => none
  else if f = 61 then match args with
    | [.pe (.sq 2 .any [.st [.bb false, .sq 1 dx Lx]]) 0 0, .op k 0] => (match Hroot h k with | some (.box tyk (.st [.bb bf, .sq 1 dy Ly])) => some ⟨[dx = .val (.int .u32 0), Lx = wds (dg (vl (unW Lx))), tyk = 59, dy = .val (.int .u32 0), Ly = wds (dg (vl (unW Ly))), bf = false, (dg (vl (unW Lx))).length ≤ 100000, (dg (vl (unW Ly))).length ≤ 100000], [], [(k, .box 59 (bI bf (vl (unW Ly))))], .i (cmp3 (vl (unW Lx)) (vl (unW Ly))), [(k, .box 59 (bI false (vl (unW Ly))))], nx⟩ | _ => none)
    | _ => none
  else none
theorem SDeh_ok (J : Inv) (f : FuncId) (args : List V) (h : List (Nat × Ob)) (nx : Nat) (c : CallH) (hc : SDeh f args h nx = some c) (hl : AllP c.l) : FnH Tryz.prog J f (mixA h c.bw args).1 c.pre nx c.res c.post c.nx := by
  unfold SDeh at hc
  split at hc
  · rename_i hf; subst hf
    split at hc
    · rename_i dp Lp db Lb gN gX gY gS gF dx Lx dy Ly
      obtain rfl := Option.some.inj hc
      obtain ⟨qdp, qlp, qdb, qlb, qdx, qlx, qdy, qly, c0, c1, c2, c3, -⟩ := hl.un
      clear hl
      subst qdp qdb qdx qdy
      obtain ⟨p, rfl⟩ : ∃ z, Lp = wds (dg z) := ⟨_, qlp⟩
      obtain ⟨b, rfl⟩ : ∃ z, Lb = wds (dg z) := ⟨_, qlb⟩
      obtain ⟨x, rfl⟩ : ∃ z, Lx = wds (dg z) := ⟨_, qlx⟩
      obtain ⟨y, rfl⟩ : ∃ z, Ly = wds (dg z) := ⟨_, qly⟩
      try simp only [unW_wds, vl_dg] at c0
      try simp only [unW_wds, vl_dg] at c1
      try simp only [unW_wds, vl_dg] at c2
      try simp only [unW_wds, vl_dg] at c3
      simp only [unW_wds, vl_dg]
      exact gsubH_fn J p b gN gX gY gS gF c0 c1 nx x y c2 c3
    · exact absurd hc (by simp)
  · split at hc
    · rename_i hf; subst hf
      split at hc
      · rename_i k kq1 dy Ly
        split at hc
        · rename_i tyk bx dx Lx hk0
          obtain rfl := Option.some.inj hc
          obtain ⟨ekq1, qdy, qly, qtk, qdx, qlx, c0, c1, -⟩ := hl.un
          clear hl
          subst ekq1 qdy qtk qdx
          obtain ⟨y, rfl⟩ : ∃ z, Ly = wds (dg z) := ⟨_, qly⟩
          obtain ⟨x, rfl⟩ : ∃ z, Lx = wds (dg z) := ⟨_, qlx⟩
          try simp only [unW_wds, vl_dg] at c0
          try simp only [unW_wds, vl_dg] at c1
          simp only [unW_wds, vl_dg]
          exact bAddP_fn J k nx bx x y c0 c1
        · exact absurd hc (by simp)
      · exact absurd hc (by simp)
    · split at hc
      · rename_i hf; subst hf
        split at hc
        · rename_i dp Lp db Lb gN gX gY gS gF k
          split at hc
          · rename_i tyk bx dx Lx hk0
            obtain rfl := Option.some.inj hc
            obtain ⟨qdp, qlp, qdb, qlb, qtk, qdx, qlx, c0, c1, c2, c3, -⟩ := hl.un
            clear hl
            subst qdp qdb qtk qdx
            obtain ⟨p, rfl⟩ : ∃ z, Lp = wds (dg z) := ⟨_, qlp⟩
            obtain ⟨b, rfl⟩ : ∃ z, Lb = wds (dg z) := ⟨_, qlb⟩
            obtain ⟨x, rfl⟩ : ∃ z, Lx = wds (dg z) := ⟨_, qlx⟩
            try simp only [unW_wds, vl_dg] at c0
            try simp only [unW_wds, vl_dg] at c1
            try simp only [unW_wds, vl_dg] at c2
            try simp only [unW_wds, vl_dg] at c3
            simp only [unW_wds, vl_dg]
            exact gmod_fn J p b gN gX gY gS gF c1 c2 k nx c0 bx x c3
          · exact absurd hc (by simp)
        · exact absurd hc (by simp)
      · split at hc
        · rename_i hf; subst hf
          split at hc
          · rename_i dx Lx k
            split at hc
            · rename_i tyk bf dy Ly hk0
              obtain rfl := Option.some.inj hc
              obtain ⟨qdx, qlx, qtk, qdy, qly, c0, c1, c2, -⟩ := hl.un
              clear hl
              subst qdx qtk qdy
              obtain ⟨x, rfl⟩ : ∃ z, Lx = wds (dg z) := ⟨_, qlx⟩
              obtain ⟨y, rfl⟩ : ∃ z, Ly = wds (dg z) := ⟨_, qly⟩
              try simp only [unW_wds, vl_dg] at c0
              try simp only [unW_wds, vl_dg] at c1
              try simp only [unW_wds, vl_dg] at c2
              simp only [unW_wds, vl_dg]
              exact (by subst c0; exact bCmpO_fn J k nx x y c1 c2)
            · exact absurd hc (by simp)
          · exact absurd hc (by simp)
        · exact absurd hc (by simp)
def SDe (J : Inv) (b : Nat) : Sig := ⟨J, sdf, SDdf, SDeh, b⟩
theorem SDe_ok (J : Inv) (b : Nat) : SigOk Tryz.prog (SDe J b) := ⟨(SDd_ok J).1, SDeh_ok J⟩
/-- y² = x³ - 3x + b -/
def crvR (p b x : Nat) : Nat := (gsub (x * (x * x % p) % p) (3 * x % p) p + b) % p
def crvOn (p b x y : Nat) : Bool := decide (x < p) && (decide (y < p) && (y * y % p == crvR p b x))
theorem modS_lt {b : Bool} {v p : Nat} (h : 0 < p) : modS b v p < p := by
  unfold modS
  have := Nat.mod_lt v h
  split <;> omega
theorem gsub_lt {x y p : Nat} (h : 0 < p) : gsub x y p < p := modS_lt h
theorem cmp3_ltz (a b : Nat) : decide (cmp3 a b < 0) = decide (a < b) := by
  unfold cmp3
  by_cases h : a < b
  · rw [if_pos h, decide_eq_true h]; rfl
  · rw [if_neg h, decide_eq_false h]; split <;> rfl
theorem on_fn (J : Inv) (p b : Nat) (gN gX gY gS gF : V) (hp : (dg p).length ≤ 100) (hp3 : 3 ≤ (dg p).length) (hb : (dg b).length ≤ 100) (hg : gcl gN gX gY gS gF = true) (x y : Nat) (hx : (dg x).length ≤ 100) (hy : (dg y).length ≤ 100) : Fn Tryz.prog J 27 false [gV p b gN gX gY gS gF, pN x, pN y] (.bb (crvOn p b x y)) := by
  have hg2 := hg
  unfold gcl at hg2
  have s1 : ∀ a b, sumN false a false b = a + b := fun a b => if_pos rfl
  have s2 : ∀ a b, sumB false a false b = false := fun a b => if_pos rfl
  refine fn_intro Tryz.func27 rfl (by kernel_rfl) (Nat.le_of_ble_eq_true (by kernel_rfl)) (by kernel_rfl) (by kernel_rfl) rfl (SDe_ok J 0) ?_
  unfold Tryz.f27
  simp only [↓Br_t, ↓Br_f, ↓Brg_t, ↓Brg_f, bnC, Kseq_app, Nat.reduceMul, Nat.reduceLeDiff, Nat.reduceEqDiff, Nat.reduceLT, Nat.reduceAdd, Nat.reduceSub, ↓reduceIte, implies_true, reduceCtorEq, ne_eq, ↓shr_eq, IntKind.bits, Int.reduceToNat, Int.reducePow, dite_eq_ite, Value.oneCell', Nat.reduceBEq, Nat.reduceDiv, bnS, bnN, bnT, spB, vl_dg, W32_dg, unW_wds, wV, sdf, wds_nil, SDe, SDdf, SDcf, SDeh, gV, pN, bI, hg, hg2, s1, s2, modS_false]
  have hp0 : 0 < p := Nat.pos_of_ne_zero fun e => by rw [e, dg_zero] at hp3; exact absurd hp3 (by simp)
  have hm : ∀ v, (dg (v % p)).length ≤ 100 := fun v => Nat.le_trans (dg_mono (Nat.le_of_lt (Nat.mod_lt v hp0))) hp
  have hs : ∀ u v, (dg (gsub u v p)).length ≤ 100 := fun u v => Nat.le_trans (dg_mono (Nat.le_of_lt (gsub_lt hp0))) hp
  have hm2 : ∀ v k, 100 ≤ k → (dg (v % p)).length ≤ k := fun v k h => Nat.le_trans (hm v) h
  have hs2 : ∀ u v k, 100 ≤ k → (dg (gsub u v p)).length ≤ k := fun u v k h => Nat.le_trans (hs u v) h
  have ht := dg_sum_len (hs (x * (x * x % p) % p) (3 * x % p)) hb
  refine ⟨hp, hp3, by omega, by omega, hp, hp3, by omega, hm2 _ _ (by omega), hp, hp3, by omega, by omega, by omega, hp, hp3, hm2 _ _ (by omega), hm2 _ _ (by omega), hs2 _ _ _ (by omega), by omega, hp, hp3, by omega, by omega, by omega, fun _ => by omega, fun _ => by omega, fun _ => hp, fun _ => hp3, fun _ => by omega, fun _ => by omega, fun _ => hm2 _ _ (by omega), fun _ => hm2 _ _ (by omega), ?_⟩
  rw [cmp3_ltz, cmp3_ltz, cmp3_zero, Bool.and_assoc]
  rfl
end Go.Proofs.YtmpklnhmempmgaaGreatDoor
