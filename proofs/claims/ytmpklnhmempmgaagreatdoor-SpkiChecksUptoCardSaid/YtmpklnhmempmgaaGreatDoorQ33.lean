/- The curves P-256 and P-384 (curve): the point of two coordinates. -/
import Derived.Test.YtmpklnhmempmgaaGreatDoorQ32
namespace Go.Proofs.YtmpklnhmempmgaaGreatDoor
open Go.RowKit
set_option linter.unusedSimpArgs false
set_option maxRecDepth 100000
def SDff : FuncId → List V → Option (List Prop × Bool × V) := fun f args =>
  if f = 26 then match args with
    | [.val (.int .i64 c)] => some ([], false, ofV c)
    | _ => none
  else if f = 24 then match args with
    | [.by b] => some ([b.length ≤ 67108864], false, wV (dg (nb b)))
    | _ => none
  else if f = 27 then match args with
    | [.pe (.sq 7 .any [.st [.pe (.sq 2 .any [.st [.bb false, .sq 1 dp Lp]]) 0 0, .pe (.sq 2 .any [.st [.bb false, .sq 1 db Lb]]) 0 0, gN, gX, gY, gS, gF]]) 0 0, .pe (.sq 2 .any [.st [.bb false, .sq 1 dx Lx]]) 0 0, .pe (.sq 2 .any [.st [.bb false, .sq 1 dy Ly]]) 0 0] => some ([dp = .val (.int .u32 0), Lp = wds (dg (vl (unW Lp))), db = .val (.int .u32 0), Lb = wds (dg (vl (unW Lb))), dx = .val (.int .u32 0), Lx = wds (dg (vl (unW Lx))), dy = .val (.int .u32 0), Ly = wds (dg (vl (unW Ly))), (dg (vl (unW Lp))).length ≤ 100, 3 ≤ (dg (vl (unW Lp))).length, (dg (vl (unW Lb))).length ≤ 100, gcl gN gX gY gS gF = true, (dg (vl (unW Lx))).length ≤ 100, (dg (vl (unW Ly))).length ≤ 100], false, .bb (crvOn (vl (unW Lp)) (vl (unW Lb)) (vl (unW Lx)) (vl (unW Ly))))
    | _ => none
  else none
def SDf (J : Inv) : Sig := ⟨J, sdf, SDff, noH, 0⟩
theorem SDf_ok (J : Inv) : SigOk Tryz.prog (SDf J) := by
  refine .plain fun f args l fr r h hl => ?_
  change SDff f args = some (l, fr, r) at h
  unfold SDff at h
  split at h
  · rename_i hf; subst hf
    split at h
    · rename_i c
      obtain ⟨rfl, rfl, rfl⟩ := jsome_tri h
      have hp := of_fn J c
      exact hp
    · exact absurd h (by simp)
  · split at h
    · rename_i hf; subst hf
      split at h
      · rename_i b
        obtain ⟨rfl, rfl, rfl⟩ := jsome_tri h
        obtain ⟨c0, -⟩ := hl.un
        have hp := fromBytes_fn J b c0
        exact hp
      · exact absurd h (by simp)
    · split at h
      · rename_i hf; subst hf
        split at h
        · rename_i dp Lp db Lb gN gX gY gS gF dx Lx dy Ly
          obtain ⟨rfl, rfl, rfl⟩ := jsome_tri h
          obtain ⟨qdp, qlp, qdb, qlb, qdx, qlx, qdy, qly, c0, c1, c2, c3, c4, c5, -⟩ := hl.un
          subst qdp qdb qdx qdy
          clear hl
          obtain ⟨p, rfl⟩ : ∃ z, Lp = wds (dg z) := ⟨_, qlp⟩
          obtain ⟨b, rfl⟩ : ∃ z, Lb = wds (dg z) := ⟨_, qlb⟩
          obtain ⟨x, rfl⟩ : ∃ z, Lx = wds (dg z) := ⟨_, qlx⟩
          obtain ⟨y, rfl⟩ : ∃ z, Ly = wds (dg z) := ⟨_, qly⟩
          try simp only [unW_wds, vl_dg] at c0
          try simp only [unW_wds, vl_dg] at c1
          try simp only [unW_wds, vl_dg] at c2
          try simp only [unW_wds, vl_dg] at c3
          try simp only [unW_wds, vl_dg] at c4
          try simp only [unW_wds, vl_dg] at c5
          simp only [unW_wds, vl_dg]
          have hp := on_fn J p b gN gX gY gS gF c0 c1 c2 c3 x y c4 c5
          exact hp
        · exact absurd h (by simp)
      · exact absurd h (by simp)
theorem FnH.more {P : Program} {J : Inv} {f : FuncId} {args : List V} {h h' : List (Nat × Ob)} {nx n1 n2 : Nat} {r : V} (hf : FnH P J f args h nx r h' n1) (hn : n1 ≤ n2) : FnH P J f args h nx r h' n2 := by
  refine ⟨hf.1, fun w F vs hmem0 hlen hvs => ?_⟩
  refine (hf.2 w F vs hmem0 hlen hvs).mono fun e w' ⟨v, G, he, hev, hle, hkeep, hmem, hown, hrep⟩ => ⟨v, G, he, hev, hle, hkeep, ⟨hmem.flt, fun m hm => hmem.nx m (Nat.le_trans hn hm), hmem.own, hmem.sep, hmem.wsl, hmem.inv⟩, hown, hrep⟩
theorem lendBytes_fn (J : Inv) (k nx : Nat) (b0 v0 : V) (b : List UInt8) (hb : b.length ≤ 100000) : FnH Tryz.prog J 28 [.op k 0, .by b] [(k, .box 59 (.st [b0, v0]))] nx (pN (nb b)) [] (nx + 1) := FnH.more (FnH.lend_box (setBytes_fn J k nx b0 v0 b hb) (by simp)) (by omega)
def SDgh : FuncId → List V → List (Nat × Ob) → Nat → Option CallH := fun f args h nx =>
  if f = 28 then match args with
    | [.op k 0, .by b] => (match Hroot h k with | some (.box tyk (.st [bk, vk])) => some ⟨[tyk = 59, b.length ≤ 100000], [], [(k, .box 59 (.st [bk, vk]))], pN (nb b), [], nx + 1⟩ | _ => none)
    | _ => none
  else none
theorem SDgh_ok (J : Inv) (f : FuncId) (args : List V) (h : List (Nat × Ob)) (nx : Nat) (c : CallH) (hc : SDgh f args h nx = some c) (hl : AllP c.l) : FnH Tryz.prog J f (mixA h c.bw args).1 c.pre nx c.res c.post c.nx := by
  unfold SDgh at hc
  split at hc
  · rename_i hf; subst hf
    split at hc
    · rename_i k b
      split at hc
      · rename_i tyk bk vk hk0
        obtain rfl := Option.some.inj hc
        obtain ⟨qtk, c0, -⟩ := hl.un
        clear hl
        subst qtk
        exact lendBytes_fn J k nx bk vk b c0
      · exact absurd hc (by simp)
    · exact absurd hc (by simp)
  · exact absurd hc (by simp)
def SDg (J : Inv) (b : Nat) : Sig := ⟨J, sdf, SDff, SDgh, b⟩
theorem SDg_ok (J : Inv) (b : Nat) : SigOk Tryz.prog (SDg J b) := ⟨(SDf_ok J).1, SDgh_ok J⟩
def gOk (p b size : Nat) (x y : List UInt8) : Bool := decide (x.length = size) && (decide (y.length = size) && crvOn p b (nb x) (nb y))
def crvOk (c : Int) (x y : List UInt8) : Bool := if c = 1 then gOk (hexN hp256) (hexN hb256) 32 x y else if c = 2 then gOk (hexN hp384) (hexN hb384) 48 x y else false
def crvPt (o : Bool) (x y : List UInt8) : V := if o = true then .st [wV (dg (nb x)), wV (dg (nb y)), .bb false] else .st [.val (.slice none 0 0), .val (.slice none 0 0), .bb false]
def crvCo (o : Bool) : Int := if o = true then 0 else 93
theorem crvPt_cl (o : Bool) (x y : List UInt8) : (crvPt o x y).cl = true := by unfold crvPt; split <;> simp [V.cl, clL, wV, wds_cl]
theorem hexN_len2 {s : List UInt8} (h : hexB s = true) : (dg (hexN s)).length ≤ s.length := hexN_len (hexB_ok h)
theorem p256_l3 : 3 ≤ (dg (hexN hp256)).length := by
  have h : Nat.ble (4294967296 ^ 2) (hexN hp256) = true := by kernel_rfl
  have h2 := dg_hi (hexN hp256)
  have h3 := Nat.le_of_ble_eq_true h
  exact Nat.lt_of_not_le fun h4 => absurd (Nat.lt_of_lt_of_le h2 (Nat.pow_le_pow_right (by omega) h4)) (Nat.not_lt.2 h3)
theorem p384_l3 : 3 ≤ (dg (hexN hp384)).length := by
  have h : Nat.ble (4294967296 ^ 2) (hexN hp384) = true := by kernel_rfl
  have h2 := dg_hi (hexN hp384)
  have h3 := Nat.le_of_ble_eq_true h
  exact Nat.lt_of_not_le fun h4 => absurd (Nat.lt_of_lt_of_le h2 (Nat.pow_le_pow_right (by omega) h4)) (Nat.not_lt.2 h3)
theorem p256_l : (dg (hexN hp256)).length ≤ 100 := Nat.le_trans (hexN_len2 (by kernel_rfl)) (Nat.le_of_ble_eq_true (by kernel_rfl))
theorem b256_l : (dg (hexN hb256)).length ≤ 100 := Nat.le_trans (hexN_len2 (by kernel_rfl)) (Nat.le_of_ble_eq_true (by kernel_rfl))
theorem p384_l : (dg (hexN hp384)).length ≤ 100 := Nat.le_trans (hexN_len2 (by kernel_rfl)) (Nat.le_of_ble_eq_true (by kernel_rfl))
theorem b384_l : (dg (hexN hb384)).length ≤ 100 := Nat.le_trans (hexN_len2 (by kernel_rfl)) (Nat.le_of_ble_eq_true (by kernel_rfl))
theorem two_one : ((2 : Int) == 1) = false ∧ ((2 : Int) == 2) = true ∧ ((2 : Int) = 1) = False := ⟨rfl, rfl, by simp⟩
theorem dec1_fn (J : Inv) (x y : List UInt8) (hx : x.length = 32) (hy : y.length = 32) (o : Bool) (ho : crvOn (hexN hp256) (hexN hb256) (nb x) (nb y) = o) : Fn Tryz.prog J 17 false [.i 1, .by x, .by y] (.tu [crvPt o x y, .i (crvCo o)]) := by
  refine Fn.of_plain (nx := 10) (post := []) ?_ (by have := crvPt_cl o x y; simp [V.cl, clL, V.i, this])
  refine fnH_introC Tryz.func17 rfl (by kernel_rfl) (Nat.le_of_ble_eq_true (by kernel_rfl)) (by kernel_rfl) (by kernel_rfl) (SDg_ok J 0) rfl ?_
  unfold Tryz.f17
  have e1 : ((x.length : Int) == ((32 : Nat) : Int)) = true := by rw [beq_iff_eq]; omega
  have e2 : ((y.length : Int) == ((32 : Nat) : Int)) = true := by rw [beq_iff_eq]; omega
  simp only [↓Br_t, ↓Br_f, ↓Brg_t, ↓Brg_f, bnC, Kseq_app, Nat.reduceMul, Nat.reduceLeDiff, Nat.reduceEqDiff, Nat.reduceLT, Nat.reduceAdd, Nat.reduceSub, ↓reduceIte, implies_true, reduceCtorEq, ne_eq, ↓shr_eq, IntKind.bits, Int.reduceToNat, Int.reducePow, dite_eq_ite, Value.oneCell', Nat.reduceBEq, Nat.reduceDiv, bnS, bnN, bnT, spB, vl_dg, W32_dg, unW_wds, wV, sdf, wds_nil, SDg, SDff, SDgh, ofV, grV, pN, bI, stepV, gcl, e1, e2, ho, two_one]
  have l1 := nb_dg_len x
  have l2 := nb_dg_len y
  refine ⟨by omega, by omega, fun _ => p256_l, fun _ => p256_l3, fun _ => b256_l, fun _ => by omega, fun _ => by omega, fun h => ?_, fun h => ⟨by omega, by omega, ?_⟩⟩
  · obtain rfl : o = false := by simpa using h
    refine .inl ?_
    simp only [↓Br_t, ↓Br_f, ↓Brg_t, ↓Brg_f, bnC, Kseq_app, Nat.reduceMul, Nat.reduceLeDiff, Nat.reduceEqDiff, Nat.reduceLT, Nat.reduceAdd, Nat.reduceSub, ↓reduceIte, implies_true, reduceCtorEq, ne_eq, ↓shr_eq, IntKind.bits, Int.reduceToNat, Int.reducePow, dite_eq_ite, Value.oneCell', Nat.reduceBEq, Nat.reduceDiv, bnS, bnN, bnT, spB, vl_dg, W32_dg, unW_wds, wV, sdf, wds_nil, crvPt, crvCo]
  · obtain rfl : o = true := by simpa using h
    refine .inl ?_
    simp only [↓Br_t, ↓Br_f, ↓Brg_t, ↓Brg_f, bnC, Kseq_app, Nat.reduceMul, Nat.reduceLeDiff, Nat.reduceEqDiff, Nat.reduceLT, Nat.reduceAdd, Nat.reduceSub, ↓reduceIte, implies_true, reduceCtorEq, ne_eq, ↓shr_eq, IntKind.bits, Int.reduceToNat, Int.reducePow, dite_eq_ite, Value.oneCell', Nat.reduceBEq, Nat.reduceDiv, bnS, bnN, bnT, spB, vl_dg, W32_dg, unW_wds, wV, sdf, wds_nil, crvPt, crvCo]
theorem dec2_fn (J : Inv) (x y : List UInt8) (hx : x.length = 48) (hy : y.length = 48) (o : Bool) (ho : crvOn (hexN hp384) (hexN hb384) (nb x) (nb y) = o) : Fn Tryz.prog J 17 false [.i 2, .by x, .by y] (.tu [crvPt o x y, .i (crvCo o)]) := by
  refine Fn.of_plain (nx := 10) (post := []) ?_ (by have := crvPt_cl o x y; simp [V.cl, clL, V.i, this])
  refine fnH_introC Tryz.func17 rfl (by kernel_rfl) (Nat.le_of_ble_eq_true (by kernel_rfl)) (by kernel_rfl) (by kernel_rfl) (SDg_ok J 0) rfl ?_
  unfold Tryz.f17
  have e1 : ((x.length : Int) == ((48 : Nat) : Int)) = true := by rw [beq_iff_eq]; omega
  have e2 : ((y.length : Int) == ((48 : Nat) : Int)) = true := by rw [beq_iff_eq]; omega
  simp only [↓Br_t, ↓Br_f, ↓Brg_t, ↓Brg_f, bnC, Kseq_app, Nat.reduceMul, Nat.reduceLeDiff, Nat.reduceEqDiff, Nat.reduceLT, Nat.reduceAdd, Nat.reduceSub, ↓reduceIte, implies_true, reduceCtorEq, ne_eq, ↓shr_eq, IntKind.bits, Int.reduceToNat, Int.reducePow, dite_eq_ite, Value.oneCell', Nat.reduceBEq, Nat.reduceDiv, bnS, bnN, bnT, spB, vl_dg, W32_dg, unW_wds, wV, sdf, wds_nil, SDg, SDff, SDgh, ofV, grV, pN, bI, stepV, gcl, e1, e2, ho, two_one]
  have l1 := nb_dg_len x
  have l2 := nb_dg_len y
  refine ⟨by omega, by omega, fun _ => p384_l, fun _ => p384_l3, fun _ => b384_l, fun _ => by omega, fun _ => by omega, fun h => ?_, fun h => ⟨by omega, by omega, ?_⟩⟩
  · obtain rfl : o = false := by simpa using h
    refine .inl ?_
    simp only [↓Br_t, ↓Br_f, ↓Brg_t, ↓Brg_f, bnC, Kseq_app, Nat.reduceMul, Nat.reduceLeDiff, Nat.reduceEqDiff, Nat.reduceLT, Nat.reduceAdd, Nat.reduceSub, ↓reduceIte, implies_true, reduceCtorEq, ne_eq, ↓shr_eq, IntKind.bits, Int.reduceToNat, Int.reducePow, dite_eq_ite, Value.oneCell', Nat.reduceBEq, Nat.reduceDiv, bnS, bnN, bnT, spB, vl_dg, W32_dg, unW_wds, wV, sdf, wds_nil, crvPt, crvCo]
  · obtain rfl : o = true := by simpa using h
    refine .inl ?_
    simp only [↓Br_t, ↓Br_f, ↓Brg_t, ↓Brg_f, bnC, Kseq_app, Nat.reduceMul, Nat.reduceLeDiff, Nat.reduceEqDiff, Nat.reduceLT, Nat.reduceAdd, Nat.reduceSub, ↓reduceIte, implies_true, reduceCtorEq, ne_eq, ↓shr_eq, IntKind.bits, Int.reduceToNat, Int.reducePow, dite_eq_ite, Value.oneCell', Nat.reduceBEq, Nat.reduceDiv, bnS, bnN, bnT, spB, vl_dg, W32_dg, unW_wds, wV, sdf, wds_nil, crvPt, crvCo]
/-- A call that is not carried out. -/
def SDxf : FuncId → List V → Option (List Prop × Bool × V) := fun f args => match SDff f args with
  | some r => some r
  | none => if f = 27 then some ([False], false, .bb true) else none
def SDx (J : Inv) : Sig := ⟨J, sdf, SDxf, SDgh, 0⟩
theorem SDx_ok (J : Inv) : SigOk Tryz.prog (SDx J) := by
  refine ⟨fun f args l fr r h hl => ?_, SDgh_ok J⟩
  change SDxf f args = some (l, fr, r) at h
  unfold SDxf at h
  split at h
  · rename_i r' hr
    obtain rfl := Option.some.inj h
    exact (SDf_ok J).1 f args l fr r hr hl
  · split at h
    · obtain ⟨rfl, rfl, rfl⟩ := jsome_tri h
      exact (hl False (by simp)).elim
    · exact absurd h (by simp)
theorem dec1x_fn (J : Inv) (x y : List UInt8) (hx : x.length ≠ 32) : Fn Tryz.prog J 17 false [.i 1, .by x, .by y] (.tu [crvPt false x y, .i (crvCo false)]) := by
  refine Fn.of_plain (nx := 10) (post := []) ?_ (by have := crvPt_cl false x y; simp [V.cl, clL, V.i, this])
  refine fnH_introC Tryz.func17 rfl (by kernel_rfl) (Nat.le_of_ble_eq_true (by kernel_rfl)) (by kernel_rfl) (by kernel_rfl) (SDx_ok J) rfl ?_
  unfold Tryz.f17
  have e1 : ((x.length : Int) == ((32 : Nat) : Int)) = false := by rw [beq_eq_false_iff_ne]; omega
  simp only [↓Br_t, ↓Br_f, ↓Brg_t, ↓Brg_f, bnC, Kseq_app, Nat.reduceMul, Nat.reduceLeDiff, Nat.reduceEqDiff, Nat.reduceLT, Nat.reduceAdd, Nat.reduceSub, ↓reduceIte, implies_true, reduceCtorEq, ne_eq, ↓shr_eq, IntKind.bits, Int.reduceToNat, Int.reducePow, dite_eq_ite, Value.oneCell', Nat.reduceBEq, Nat.reduceDiv, bnS, bnN, bnT, spB, vl_dg, W32_dg, unW_wds, wV, sdf, wds_nil, SDx, SDxf, SDff, SDgh, ofV, grV, pN, bI, stepV, gcl, e1, two_one]
  refine .inl ?_
  simp only [↓Br_t, ↓Br_f, ↓Brg_t, ↓Brg_f, bnC, Kseq_app, Nat.reduceMul, Nat.reduceLeDiff, Nat.reduceEqDiff, Nat.reduceLT, Nat.reduceAdd, Nat.reduceSub, ↓reduceIte, implies_true, reduceCtorEq, ne_eq, ↓shr_eq, IntKind.bits, Int.reduceToNat, Int.reducePow, dite_eq_ite, Value.oneCell', Nat.reduceBEq, Nat.reduceDiv, bnS, bnN, bnT, spB, vl_dg, W32_dg, unW_wds, wV, sdf, wds_nil, crvPt, crvCo]
theorem dec1y_fn (J : Inv) (x y : List UInt8) (hx : x.length = 32) (hy : y.length ≠ 32) : Fn Tryz.prog J 17 false [.i 1, .by x, .by y] (.tu [crvPt false x y, .i (crvCo false)]) := by
  refine Fn.of_plain (nx := 10) (post := []) ?_ (by have := crvPt_cl false x y; simp [V.cl, clL, V.i, this])
  refine fnH_introC Tryz.func17 rfl (by kernel_rfl) (Nat.le_of_ble_eq_true (by kernel_rfl)) (by kernel_rfl) (by kernel_rfl) (SDx_ok J) rfl ?_
  unfold Tryz.f17
  have e1 : ((x.length : Int) == ((32 : Nat) : Int)) = true := by rw [beq_iff_eq]; omega
  have e2 : ((y.length : Int) == ((32 : Nat) : Int)) = false := by rw [beq_eq_false_iff_ne]; omega
  simp only [↓Br_t, ↓Br_f, ↓Brg_t, ↓Brg_f, bnC, Kseq_app, Nat.reduceMul, Nat.reduceLeDiff, Nat.reduceEqDiff, Nat.reduceLT, Nat.reduceAdd, Nat.reduceSub, ↓reduceIte, implies_true, reduceCtorEq, ne_eq, ↓shr_eq, IntKind.bits, Int.reduceToNat, Int.reducePow, dite_eq_ite, Value.oneCell', Nat.reduceBEq, Nat.reduceDiv, bnS, bnN, bnT, spB, vl_dg, W32_dg, unW_wds, wV, sdf, wds_nil, SDx, SDxf, SDff, SDgh, ofV, grV, pN, bI, stepV, gcl, e1, e2, two_one]
  refine .inl ?_
  simp only [↓Br_t, ↓Br_f, ↓Brg_t, ↓Brg_f, bnC, Kseq_app, Nat.reduceMul, Nat.reduceLeDiff, Nat.reduceEqDiff, Nat.reduceLT, Nat.reduceAdd, Nat.reduceSub, ↓reduceIte, implies_true, reduceCtorEq, ne_eq, ↓shr_eq, IntKind.bits, Int.reduceToNat, Int.reducePow, dite_eq_ite, Value.oneCell', Nat.reduceBEq, Nat.reduceDiv, bnS, bnN, bnT, spB, vl_dg, W32_dg, unW_wds, wV, sdf, wds_nil, crvPt, crvCo]
theorem dec2x_fn (J : Inv) (x y : List UInt8) (hx : x.length ≠ 48) : Fn Tryz.prog J 17 false [.i 2, .by x, .by y] (.tu [crvPt false x y, .i (crvCo false)]) := by
  refine Fn.of_plain (nx := 10) (post := []) ?_ (by have := crvPt_cl false x y; simp [V.cl, clL, V.i, this])
  refine fnH_introC Tryz.func17 rfl (by kernel_rfl) (Nat.le_of_ble_eq_true (by kernel_rfl)) (by kernel_rfl) (by kernel_rfl) (SDx_ok J) rfl ?_
  unfold Tryz.f17
  have e1 : ((x.length : Int) == ((48 : Nat) : Int)) = false := by rw [beq_eq_false_iff_ne]; omega
  simp only [↓Br_t, ↓Br_f, ↓Brg_t, ↓Brg_f, bnC, Kseq_app, Nat.reduceMul, Nat.reduceLeDiff, Nat.reduceEqDiff, Nat.reduceLT, Nat.reduceAdd, Nat.reduceSub, ↓reduceIte, implies_true, reduceCtorEq, ne_eq, ↓shr_eq, IntKind.bits, Int.reduceToNat, Int.reducePow, dite_eq_ite, Value.oneCell', Nat.reduceBEq, Nat.reduceDiv, bnS, bnN, bnT, spB, vl_dg, W32_dg, unW_wds, wV, sdf, wds_nil, SDx, SDxf, SDff, SDgh, ofV, grV, pN, bI, stepV, gcl, e1, two_one]
  refine .inl ?_
  simp only [↓Br_t, ↓Br_f, ↓Brg_t, ↓Brg_f, bnC, Kseq_app, Nat.reduceMul, Nat.reduceLeDiff, Nat.reduceEqDiff, Nat.reduceLT, Nat.reduceAdd, Nat.reduceSub, ↓reduceIte, implies_true, reduceCtorEq, ne_eq, ↓shr_eq, IntKind.bits, Int.reduceToNat, Int.reducePow, dite_eq_ite, Value.oneCell', Nat.reduceBEq, Nat.reduceDiv, bnS, bnN, bnT, spB, vl_dg, W32_dg, unW_wds, wV, sdf, wds_nil, crvPt, crvCo]
theorem dec2y_fn (J : Inv) (x y : List UInt8) (hx : x.length = 48) (hy : y.length ≠ 48) : Fn Tryz.prog J 17 false [.i 2, .by x, .by y] (.tu [crvPt false x y, .i (crvCo false)]) := by
  refine Fn.of_plain (nx := 10) (post := []) ?_ (by have := crvPt_cl false x y; simp [V.cl, clL, V.i, this])
  refine fnH_introC Tryz.func17 rfl (by kernel_rfl) (Nat.le_of_ble_eq_true (by kernel_rfl)) (by kernel_rfl) (by kernel_rfl) (SDx_ok J) rfl ?_
  unfold Tryz.f17
  have e1 : ((x.length : Int) == ((48 : Nat) : Int)) = true := by rw [beq_iff_eq]; omega
  have e2 : ((y.length : Int) == ((48 : Nat) : Int)) = false := by rw [beq_eq_false_iff_ne]; omega
  simp only [↓Br_t, ↓Br_f, ↓Brg_t, ↓Brg_f, bnC, Kseq_app, Nat.reduceMul, Nat.reduceLeDiff, Nat.reduceEqDiff, Nat.reduceLT, Nat.reduceAdd, Nat.reduceSub, ↓reduceIte, implies_true, reduceCtorEq, ne_eq, ↓shr_eq, IntKind.bits, Int.reduceToNat, Int.reducePow, dite_eq_ite, Value.oneCell', Nat.reduceBEq, Nat.reduceDiv, bnS, bnN, bnT, spB, vl_dg, W32_dg, unW_wds, wV, sdf, wds_nil, SDx, SDxf, SDff, SDgh, ofV, grV, pN, bI, stepV, gcl, e1, e2, two_one]
  refine .inl ?_
  simp only [↓Br_t, ↓Br_f, ↓Brg_t, ↓Brg_f, bnC, Kseq_app, Nat.reduceMul, Nat.reduceLeDiff, Nat.reduceEqDiff, Nat.reduceLT, Nat.reduceAdd, Nat.reduceSub, ↓reduceIte, implies_true, reduceCtorEq, ne_eq, ↓shr_eq, IntKind.bits, Int.reduceToNat, Int.reducePow, dite_eq_ite, Value.oneCell', Nat.reduceBEq, Nat.reduceDiv, bnS, bnN, bnT, spB, vl_dg, W32_dg, unW_wds, wV, sdf, wds_nil, crvPt, crvCo]
theorem dec0_fn (J : Inv) (c : Int) (h1 : c ≠ 1) (h2 : c ≠ 2) (x y : List UInt8) : Fn Tryz.prog J 17 false [.val (.int .i64 c), .by x, .by y] (.tu [crvPt false x y, .i (crvCo false)]) := by
  refine Fn.of_plain (nx := 10) (post := []) ?_ (by have := crvPt_cl false x y; simp [V.cl, clL, V.i, this])
  refine fnH_introC Tryz.func17 rfl (by kernel_rfl) (Nat.le_of_ble_eq_true (by kernel_rfl)) (by kernel_rfl) (by kernel_rfl) (SDx_ok J) rfl ?_
  unfold Tryz.f17
  have e0 : ofV c = .val (.pointer none) := by unfold ofV; rw [if_neg h1, if_neg h2]
  simp only [↓Br_t, ↓Br_f, ↓Brg_t, ↓Brg_f, bnC, Kseq_app, Nat.reduceMul, Nat.reduceLeDiff, Nat.reduceEqDiff, Nat.reduceLT, Nat.reduceAdd, Nat.reduceSub, ↓reduceIte, implies_true, reduceCtorEq, ne_eq, ↓shr_eq, IntKind.bits, Int.reduceToNat, Int.reducePow, dite_eq_ite, Value.oneCell', Nat.reduceBEq, Nat.reduceDiv, bnS, bnN, bnT, spB, vl_dg, W32_dg, unW_wds, wV, sdf, wds_nil, SDx, SDxf, SDff, SDgh, e0, pN]
  refine .inl ?_
  simp only [↓Br_t, ↓Br_f, ↓Brg_t, ↓Brg_f, bnC, Kseq_app, Nat.reduceMul, Nat.reduceLeDiff, Nat.reduceEqDiff, Nat.reduceLT, Nat.reduceAdd, Nat.reduceSub, ↓reduceIte, implies_true, reduceCtorEq, ne_eq, ↓shr_eq, IntKind.bits, Int.reduceToNat, Int.reducePow, dite_eq_ite, Value.oneCell', Nat.reduceBEq, Nat.reduceDiv, bnS, bnN, bnT, spB, vl_dg, W32_dg, unW_wds, wV, sdf, wds_nil, crvPt, crvCo]
theorem cdecode_fn (J : Inv) (c : Int) (x y : List UInt8) : Fn Tryz.prog J 17 false [.val (.int .i64 c), .by x, .by y] (.tu [crvPt (crvOk c x y) x y, .i (crvCo (crvOk c x y))]) := by
  unfold crvOk
  by_cases h1 : c = 1
  · subst h1
    rw [if_pos rfl]
    unfold gOk
    by_cases hx : x.length = 32
    · rw [decide_eq_true hx, Bool.true_and]
      by_cases hy : y.length = 32
      · rw [decide_eq_true hy, Bool.true_and]; exact dec1_fn J x y hx hy _ rfl
      · rw [decide_eq_false hy, Bool.false_and]; exact dec1y_fn J x y hx hy
    · rw [decide_eq_false hx, Bool.false_and]; exact dec1x_fn J x y hx
  · rw [if_neg h1]
    by_cases h2 : c = 2
    · subst h2
      rw [if_pos rfl]
      unfold gOk
      by_cases hx : x.length = 48
      · rw [decide_eq_true hx, Bool.true_and]
        by_cases hy : y.length = 48
        · rw [decide_eq_true hy, Bool.true_and]; exact dec2_fn J x y hx hy _ rfl
        · rw [decide_eq_false hy, Bool.false_and]; exact dec2y_fn J x y hx hy
      · rw [decide_eq_false hx, Bool.false_and]; exact dec2x_fn J x y hx
    · rw [if_neg h2]; exact dec0_fn J c h1 h2 x y
end Go.Proofs.YtmpklnhmempmgaaGreatDoor
