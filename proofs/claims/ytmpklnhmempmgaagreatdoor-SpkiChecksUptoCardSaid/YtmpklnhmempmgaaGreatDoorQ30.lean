/- Whole numbers of any size (bignum): numbers of bytes and digits; quotient and rest with a sign. -/
import Derived.Test.YtmpklnhmempmgaaGreatDoorQ29
namespace Go.Proofs.YtmpklnhmempmgaaGreatDoor
open Go.RowKit
set_option linter.unusedSimpArgs false
set_option maxRecDepth 100000
/-- A variable of its own that a function makes is given out of hand: it is only read from then on. -/
theorem Fn.of_box {P : Program} {J : Inv} {f : FuncId} {args : List V} {k nx : Nat} {ty : TypeId} {cs : List V} {post : List (Nat × Ob)} (h : FnH P J f args [] 0 (.op k 0) post nx) (hk : Hroot post k = some (.box ty (.st cs))) (hc : clL cs = true) (h0 : 0 < cs.length) : Fn P J f false args (.pe (.sq cs.length .any [.st cs]) 0 0) := by
  refine ⟨h.1, fun w F vs hI hF hlen hvs => ?_⟩
  have hm : Mem J [] 0 (.bare F) w := ⟨hF, fun _ _ => ⟨rfl, rfl⟩, fun m o hm => by cases m <;> simp [Hget, Hroot, Hchild] at hm, fun m m' o o' g hm => by cases m <;> simp [Hget, Hroot, Hchild] at hm, fun k y hk => by simp [Cx.bare] at hk, hI⟩
  refine (h.2 w (.bare F) vs hm hlen hvs).mono fun e w' ⟨v, G, he, hev, hle, hkeep, hmem, hown, hrep⟩ => ?_
  have hnB : ∀ b, ¬ Blk (Cx.bare F) [] b := fun b ⟨m, ob, hm, _⟩ => by cases m <;> simp [Hget, Hroot, Hchild] at hm
  obtain ⟨b, hO, rfl⟩ := rep_op hrep
  obtain ⟨b', cells, u, hO', hheap, hsz, h1, h2, _⟩ := hmem.own (.r k) _ hk
  rw [hO] at hO'
  obtain rfl : b = b' := by simpa using hO'
  have hnew : w.heap.size ≤ b := by
    rcases hown (.r k) _ b hk (by simp [Cx.blk, hO]) with h | h
    · exact absurd h (hnB b)
    · exact h
  have hcs : (V.st cs).csize = cs.length := rfl
  have hp : Rep w' (.bare fun b => F b ∨ (false = true ∧ b < w.heap.size)) (.pe (.sq cs.length .any [.st cs]) 0 0) (.pointer (some ⟨b, 0 + (0 * cs.length + 0), none⟩)) := by
    refine .pe (.sq cs.length .any [.st cs]) cs.length 1 (fun i => [V.st cs].getD i .any) 0 0 b 0 (fun _ j => u j) (by simp only [V.elems, List.length_singleton]; rw [if_neg (by omega)]) (by omega) (heap_lt hheap) (fun hb => ?_) (fun i hi j hj => ?_) (fun i hi j hj => ?_)
    · rcases hb with hb | ⟨hb, _⟩
      · have := hF b hb; omega
      · cases hb
    · obtain rfl : i = 0 := by omega
      have h3 := h1 j (by rw [hcs]; exact hj)
      rw [show 0 + (0 * cs.length + j) = j by omega]
      exact ⟨(cell0 hheap j).trans h3.1, h3.2⟩
    · obtain rfl : i = 0 := by omega
      have h3 := h2 j (by rw [hcs]; exact hj)
      have hcl : ((V.st cs).cell j).cl = true := by
        show (cs.getD j .any).cl = true
        exact cl_get hc hj _
      refine (h3.bare hcl).of_bare fun b hb => .inl ?_
      rcases hb with hb | ⟨hb, _⟩
      · exact hkeep b hb (hnB b)
      · cases hb
  rw [show 0 + (0 * cs.length + 0) = 0 by omega] at hp
  exact ⟨_, he, ⟨hev.os, hev.tape, hev.output, hev.size, fun b hb => hev.block b hb (hnB b)⟩, hp⟩
def SBjh : FuncId → List V → List (Nat × Ob) → Nat → Option CallH := fun f args h nx =>
  if f = 114 then match args with
    | [.op k 0, .val (.int .i64 x)] => match Hroot h k with
      | some (.box ty (.st [b0, v0])) => some ⟨[ty = 59, 0 ≤ x, x < 9223372036854775808], [], [(k, .box 59 (.st [b0, v0]))], .op k 0, [(k, .box 59 (bI false x.toNat))], nx⟩
      | _ => none
    | _ => none
  else SBgh f args h nx
theorem SBjh_ok (J : Inv) (f : FuncId) (args : List V) (h : List (Nat × Ob)) (nx : Nat) (c : CallH) (hc : SBjh f args h nx = some c) (hl : AllP c.l) : FnH Tryz.prog J f (mixA h c.bw args).1 c.pre nx c.res c.post c.nx := by
  unfold SBjh at hc
  split at hc
  · rename_i hf; subst hf
    split at hc
    · rename_i k x
      split at hc
      · rename_i ty b0 v0 hk
        obtain rfl := Option.some.inj hc
        have q1 : ty = 59 := hl _ (by simp)
        have q2 : 0 ≤ x := hl _ (by simp)
        have q3 : x < 9223372036854775808 := hl _ (by simp)
        have hp := bSetI_fn J k nx b0 v0 x.toNat (by omega)
        rw [show V.i (x.toNat : Int) = .val (.int .i64 x) by unfold V.i; rw [Int.toNat_of_nonneg q2]] at hp
        exact hp
      · exact absurd hc (by simp)
    · exact absurd hc (by simp)
  · exact SBgh_ok J f args h nx c hc hl
def SBj (J : Inv) (b : Nat) : Sig := ⟨J, sdf, SBsf, SBjh, b⟩
theorem SBj_ok (J : Inv) (b : Nat) : SigOk Tryz.prog (SBj J b) := ⟨(SBs_ok J).1, SBjh_ok J⟩
theorem newInt_fn (J : Inv) (x : Nat) (hx : x < 9223372036854775808) : Fn Tryz.prog J 94 false [.i x] (pN x) := by
  refine Fn.of_box (k := 0) (nx := 1) (ty := 59) (post := [(0, .box 59 (bI false x))]) ?_ rfl (by simp [clL, V.cl, wV, wds_cl]) (by simp)
  refine fnH_intro Tryz.func94 rfl (by kernel_rfl) (Nat.le_of_ble_eq_true (by kernel_rfl)) (by kernel_rfl) (by kernel_rfl) (SBj_ok J 0) rfl ?_
  unfold Tryz.f94
  simp only [↓Br_t, ↓Br_f, ↓Brg_t, ↓Brg_f, bnC, Kseq_app, Nat.reduceMul, Nat.reduceLeDiff, Nat.reduceEqDiff, Nat.reduceLT, Nat.reduceAdd, Nat.reduceSub, ↓reduceIte, implies_true, reduceCtorEq, ne_eq, ↓shr_eq, IntKind.bits, Int.reduceToNat, Int.reducePow, dite_eq_ite, Value.oneCell', Nat.reduceBEq, Nat.reduceDiv, bnS, bnN, bnT, spB, vl_dg, W32_dg, unW_wds, wV, sdf, wds_nil, SBj, SBsf, SBnf, SBmf, SBjh, SBgh, pN, bI]
  refine ⟨by omega, by omega, .inl ?_⟩
  simp only [↓Br_t, ↓Br_f, ↓Brg_t, ↓Brg_f, bnC, Kseq_app, Nat.reduceMul, Nat.reduceLeDiff, Nat.reduceEqDiff, Nat.reduceLT, Nat.reduceAdd, Nat.reduceSub, ↓reduceIte, implies_true, reduceCtorEq, ne_eq, ↓shr_eq, IntKind.bits, Int.reduceToNat, Int.reducePow, dite_eq_ite, Value.oneCell', Nat.reduceBEq, Nat.reduceDiv, bnS, bnN, bnT, spB, vl_dg, W32_dg, unW_wds, wV, sdf, wds_nil]
theorem nb_nil : nb [] = 0 := rfl
theorem setBytes_fn (J : Inv) (k nx : Nat) (b0 v0 : V) (b : List UInt8) (hb : b.length ≤ 100000) : FnH Tryz.prog J 28 [.op k 0, .by b] [(k, .box 59 (.st [b0, v0]))] nx (.op k 0) [(k, .box 59 (bI false (nb b)))] nx := by
  refine fnH_intro Tryz.func28 rfl (by kernel_rfl) (Nat.le_of_ble_eq_true (by kernel_rfl)) (by kernel_rfl) (by kernel_rfl) (SBj_ok J nx) rfl ?_
  unfold Tryz.f28
  simp only [↓Br_t, ↓Br_f, ↓Brg_t, ↓Brg_f, bnC, Kseq_app, Nat.reduceMul, Nat.reduceLeDiff, Nat.reduceEqDiff, Nat.reduceLT, Nat.reduceAdd, Nat.reduceSub, ↓reduceIte, implies_true, reduceCtorEq, ne_eq, ↓shr_eq, IntKind.bits, Int.reduceToNat, Int.reducePow, dite_eq_ite, Value.oneCell', Nat.reduceBEq, Nat.reduceDiv, bnS, bnN, bnT, spB, vl_dg, W32_dg, unW_wds, wV, sdf, wds_nil, SBj, SBsf, SBnf, SBmf, SBjh, SBgh, pN, bI]
  refine LoopC.introA (α := Nat) (fun i => i ≤ b.length) (fun i => ⟨[(0, .op k 0), (1, .by b), (5, wV (dg (nb (b.take i)))), (6, .i i)], [(k, .box 59 (.st [b0, v0]))], nx⟩) (fun i => b.length - i) 0 [.nl 5 1 (.val (.int .u32 0))] (Nat.zero_le _) ?_ ?_
  · simp only [↓Br_t, ↓Br_f, ↓Brg_t, ↓Brg_f, bnC, Kseq_app, Nat.reduceMul, Nat.reduceLeDiff, Nat.reduceEqDiff, Nat.reduceLT, Nat.reduceAdd, Nat.reduceSub, ↓reduceIte, implies_true, reduceCtorEq, ne_eq, ↓shr_eq, IntKind.bits, Int.reduceToNat, Int.reducePow, dite_eq_ite, Value.oneCell', Nat.reduceBEq, Nat.reduceDiv, bnS, bnN, bnT, spB, vl_dg, W32_dg, unW_wds, wV, sdf, wds_nil, List.take_zero, nb_nil, dg_zero]
    exact ⟨rfl, Nat.le_refl _⟩
  · intro i hi
    simp only [↓Br_t, ↓Br_f, ↓Brg_t, ↓Brg_f, bnC, Kseq_app, Nat.reduceMul, Nat.reduceLeDiff, Nat.reduceEqDiff, Nat.reduceLT, Nat.reduceAdd, Nat.reduceSub, ↓reduceIte, implies_true, reduceCtorEq, ne_eq, ↓shr_eq, IntKind.bits, Int.reduceToNat, Int.reducePow, dite_eq_ite, Value.oneCell', Nat.reduceBEq, Nat.reduceDiv, bnS, bnN, bnT, spB, vl_dg, W32_dg, unW_wds, wV, sdf, wds_nil, SBj, SBsf, SBnf, SBmf, SBjh, SBgh, pN, bI]
    refine ⟨fun h => ?_, fun h => ?_⟩
    · have h : i < b.length := by simpa using h
      refine DrawC.sch [(0, some []), (2, some []), (3, some []), (4, some []), (5, some []), (6, some []), (1, none), (7, none), (8, none), (9, some [])] [] (by kernel_rfl) ?_
      simp only [↓Br_t, ↓Br_f, ↓Brg_t, ↓Brg_f, bnC, Kseq_app, Nat.reduceMul, Nat.reduceLeDiff, Nat.reduceEqDiff, Nat.reduceLT, Nat.reduceAdd, Nat.reduceSub, ↓reduceIte, implies_true, reduceCtorEq, ne_eq, ↓shr_eq, IntKind.bits, Int.reduceToNat, Int.reducePow, dite_eq_ite, Value.oneCell', Nat.reduceBEq, Nat.reduceDiv, bnS, bnN, bnT, spB, vl_dg, W32_dg, unW_wds, wV, sdf, wds_nil, SBj, SBsf, SBnf, SBmf, SBjh, SBgh, pN, bI]
      have hl := byteAt_lo b i
      have hh := byteAt_hi b i
      have e1 : wr .u64 (byteAt b i) = (((b.getD i 0).toNat : Nat) : Int) := by
        have e : byteAt b i = (((b.getD i 0).toNat : Nat) : Int) := rfl
        rw [e] at hh ⊢
        exact wr64n (by omega)
      have e2 : b.take (i + 1) = b.take i ++ [b.getD i 0] := by rw [List.take_succ_eq_append_getElem h, List.getD_eq_getElem?_getD, List.getElem?_eq_getElem h]; rfl
      have l1 := nb_dg_len (b.take i)
      have l2 := nb_dg_len (b.take (i + 1))
      rw [List.length_take] at l1 l2
      have e3 : nb (b.take i) * 2 ^ 8 + (b.getD i 0).toNat = nb (b.take (i + 1)) := by rw [e2, nb_snoc]; omega
      have l3 := dg_mono (show nb (b.take i) * 2 ^ 8 ≤ nb (b.take (i + 1)) by omega)
      have l4 := dg_mono (show (b.getD i 0).toNat ≤ nb (b.take (i + 1)) by omega)
      rw [e1, Int.toNat_natCast]
      have h256 := (b.getD i 0).toNat_lt
      refine ⟨by omega, by omega, by omega, by omega, by omega, by omega, by omega, by omega, by omega, by constructor <;> omega, Again.intro (i + 1) h (by omega) ?_⟩
      simp only [↓Br_t, ↓Br_f, ↓Brg_t, ↓Brg_f, bnC, Kseq_app, Nat.reduceMul, Nat.reduceLeDiff, Nat.reduceEqDiff, Nat.reduceLT, Nat.reduceAdd, Nat.reduceSub, ↓reduceIte, implies_true, reduceCtorEq, ne_eq, ↓shr_eq, IntKind.bits, Int.reduceToNat, Int.reducePow, dite_eq_ite, Value.oneCell', Nat.reduceBEq, Nat.reduceDiv, bnS, bnN, bnT, spB, vl_dg, W32_dg, unW_wds, wV, sdf, wds_nil, e1]
      rw [e3]
      exact ⟨⟨rfl, by omega⟩, Nat.le_refl _⟩
    · have h : i = b.length := by rw [decide_eq_false_iff_not] at h; omega
      subst h
      rw [List.take_length]
      refine .inl ?_
      simp only [↓Br_t, ↓Br_f, ↓Brg_t, ↓Brg_f, bnC, Kseq_app, Nat.reduceMul, Nat.reduceLeDiff, Nat.reduceEqDiff, Nat.reduceLT, Nat.reduceAdd, Nat.reduceSub, ↓reduceIte, implies_true, reduceCtorEq, ne_eq, ↓shr_eq, IntKind.bits, Int.reduceToNat, Int.reducePow, dite_eq_ite, Value.oneCell', Nat.reduceBEq, Nat.reduceDiv, bnS, bnN, bnT, spB, vl_dg, W32_dg, unW_wds, wV, sdf, wds_nil]
      exact Nat.le_refl _
/-- Digits of the base sixteen. -/
def hd (c : Nat) : Nat := if c ≤ 57 then c - 48 else c - 87
def hexN (s : List UInt8) : Nat := s.foldl (fun a c => 16 * a + hd c.toNat) 0
theorem hexN_snoc (s : List UInt8) (c : UInt8) : hexN (s ++ [c]) = 16 * hexN s + hd c.toNat := by unfold hexN; rw [List.foldl_append]; rfl
def HexOk (s : List UInt8) : Prop := ∀ c ∈ s, (48 ≤ c.toNat ∧ c.toNat ≤ 57) ∨ (97 ≤ c.toNat ∧ c.toNat ≤ 102)
theorem hd_lt {s : List UInt8} (h : HexOk s) {c : UInt8} (hc : c ∈ s) : hd c.toNat < 16 := by
  have := h c hc
  unfold hd; split <;> omega
theorem hex_aux : ∀ (s : List UInt8) (a : Nat), (∀ c ∈ s, hd c.toNat < 16) → s.foldl (fun a c => 16 * a + hd c.toNat) a < (a + 1) * 16 ^ s.length
  | [], a, _ => by simp
  | c :: r, a, h => by
    have h1 := hex_aux r (16 * a + hd c.toNat) fun d hd => h d (List.mem_cons_of_mem _ hd)
    have h2 := h c (List.mem_cons_self ..)
    rw [List.foldl_cons, List.length_cons, Nat.pow_succ]
    refine Nat.lt_of_lt_of_le h1 ?_
    rw [Nat.mul_comm (16 ^ r.length), ← Nat.mul_assoc]
    exact Nat.mul_le_mul_right _ (by omega)
theorem hexN_len {s : List UInt8} (h : HexOk s) : (dg (hexN s)).length ≤ s.length := by
  have h1 := hex_aux s 0 fun c hc => hd_lt h hc
  rw [Nat.zero_add, Nat.one_mul] at h1
  exact dg_len (Nat.lt_of_lt_of_le h1 (Nat.pow_le_pow_left (by omega) _))
theorem wr_small {x : Int} (h0 : 0 ≤ x) (h1 : x < 9223372036854775808) : wr .i64 x = x := by rw [wr_eq, IntKind.wrap_i64]; omega
theorem setString_fn (J : Inv) (k nx : Nat) (b0 v0 : V) (s : List UInt8) (hs : s.length ≤ 1000) (h0 : s.length ≠ 0) (hx : HexOk s) : FnH Tryz.prog J 110 [.op k 0, .str s, .i 16] [(k, .box 59 (.st [b0, v0]))] nx (.tu [.op k 0, .bb true]) [(k, .box 59 (bI false (hexN s)))] nx := by
  refine fnH_intro Tryz.func110 rfl (by kernel_rfl) (Nat.le_of_ble_eq_true (by kernel_rfl)) (by kernel_rfl) (by kernel_rfl) (SBj_ok J nx) rfl ?_
  unfold Tryz.f110
  have hfirst : 0 < s.length := by omega
  have hm : s.getD 0 0 ∈ s := by
    rw [List.getD_eq_getElem?_getD, List.getElem?_eq_getElem hfirst]
    exact List.getElem_mem hfirst
  have hf := hx _ hm
  have e1 : (byteAt s 0 == 45) = false := by rw [beq_eq_false_iff_ne]; unfold byteAt; omega
  have e2 : (byteAt s 0 == 43) = false := by rw [beq_eq_false_iff_ne]; unfold byteAt; omega
  have e3 : decide (0 < (s.length : Int)) = true := decide_eq_true (by omega)
  have e4 : ((s.length : Int) == 0) = false := by rw [beq_eq_false_iff_ne]; omega
  have e5 : ((16 : Int) == 0) = false := rfl
  have e6 : decide ((16 : Int) < 2) = false := rfl
  have e7 : decide ((36 : Int) < 16) = false := rfl
  simp only [↓Br_t, ↓Br_f, ↓Brg_t, ↓Brg_f, bnC, Kseq_app, Nat.reduceMul, Nat.reduceLeDiff, Nat.reduceEqDiff, Nat.reduceLT, Nat.reduceAdd, Nat.reduceSub, ↓reduceIte, implies_true, reduceCtorEq, ne_eq, ↓shr_eq, IntKind.bits, Int.reduceToNat, Int.reducePow, dite_eq_ite, Value.oneCell', Nat.reduceBEq, Nat.reduceDiv, bnS, bnN, bnT, spB, vl_dg, W32_dg, unW_wds, wV, sdf, wds_nil, SBj, SBsf, SBnf, SBmf, SBjh, SBgh, pN, bI, e1, e2, e3, e4, e5, e6, e7]
  refine ⟨fun _ => by omega, fun _ => by omega, fun _ => by omega, fun _ => by omega, ?_⟩
  refine LoopC.introA (α := Nat) (fun i => i ≤ s.length) (fun i => ⟨[(0, .op k 0), (1, .str s), (2, .i 16), (8, .bb false), (9, wV (dg (hexN (s.take i)))), (10, .i i)], [(k, .box 59 (.st [b0, v0]))], nx⟩) (fun i => s.length - i) 0 [.nl 9 1 (.val (.int .u32 0))] (Nat.zero_le _) ?_ ?_
  · simp only [↓Br_t, ↓Br_f, ↓Brg_t, ↓Brg_f, bnC, Kseq_app, Nat.reduceMul, Nat.reduceLeDiff, Nat.reduceEqDiff, Nat.reduceLT, Nat.reduceAdd, Nat.reduceSub, ↓reduceIte, implies_true, reduceCtorEq, ne_eq, ↓shr_eq, IntKind.bits, Int.reduceToNat, Int.reducePow, dite_eq_ite, Value.oneCell', Nat.reduceBEq, Nat.reduceDiv, bnS, bnN, bnT, spB, vl_dg, W32_dg, unW_wds, wV, sdf, wds_nil, List.take_zero, show hexN [] = 0 from rfl, dg_zero]
    exact ⟨rfl, Nat.le_refl _⟩
  · intro i hi
    have hrange : i < s.length → (48 ≤ byteAt s i ∧ byteAt s i ≤ 57) ∨ (97 ≤ byteAt s i ∧ byteAt s i ≤ 102) := fun h => by
      have hm : s.getD i 0 ∈ s := by
        rw [List.getD_eq_getElem?_getD, List.getElem?_eq_getElem h]
        exact List.getElem_mem h
      have := hx _ hm
      unfold byteAt
      omega
    have hstep : i < s.length → hexN (s.take (i + 1)) = hexN (s.take i) * 16 + hd (byteAt s i).toNat := fun h => by
      have e2 : s.take (i + 1) = s.take i ++ [s.getD i 0] := by rw [List.take_succ_eq_append_getElem h, List.getD_eq_getElem?_getD, List.getElem?_eq_getElem h]; rfl
      rw [e2, hexN_snoc, Nat.mul_comm]
      rfl
    have hsub : ∀ n, HexOk (s.take n) := fun n c hc => hx c (List.mem_of_mem_take hc)
    have l1 := hexN_len (hsub i)
    have l2 := hexN_len (hsub (i + 1))
    rw [List.length_take] at l1 l2
    by_cases hlt : i < s.length
    · have e8 : decide ((i : Int) < s.length) = true := decide_eq_true (by omega)
      have hst := hstep hlt
      have w16 : wr .u64 16 = 16 := wr64 (by omega) (by omega)
      rcases hrange hlt with ⟨r1, r2⟩ | ⟨r1, r2⟩
      · have f1 : decide (48 ≤ byteAt s i) = true := decide_eq_true r1
        have f2 : decide (byteAt s i ≤ 57) = true := decide_eq_true r2
        have f0 : (byteAt s i - 48) % 256 = byteAt s i - 48 := by omega
        have f3 : wr .i64 (byteAt s i - 48) = ((hd (byteAt s i).toNat : Nat) : Int) := by
          rw [wr_small (by omega) (by omega)]
          unfold hd
          rw [if_pos (by omega)]
          omega
        have hlt16 : hd (byteAt s i).toNat < 16 := by unfold hd; rw [if_pos (by omega)]; omega
        generalize hd (byteAt s i).toNat = d at *
        have f5 : decide ((16 : Int) ≤ (d : Int)) = false := decide_eq_false (by omega)
        have f6 : wr .u64 (d : Int) = (d : Int) := wr64n (by omega)
        simp only [↓Br_t, ↓Br_f, ↓Brg_t, ↓Brg_f, bnC, Kseq_app, Nat.reduceMul, Nat.reduceLeDiff, Nat.reduceEqDiff, Nat.reduceLT, Nat.reduceAdd, Nat.reduceSub, ↓reduceIte, implies_true, reduceCtorEq, ne_eq, ↓shr_eq, IntKind.bits, Int.reduceToNat, Int.reducePow, dite_eq_ite, Value.oneCell', Nat.reduceBEq, Nat.reduceDiv, bnS, bnN, bnT, spB, vl_dg, W32_dg, unW_wds, wV, sdf, wds_nil, SBj, SBsf, SBnf, SBmf, SBjh, SBgh, pN, bI, e8, f1, f2, w16, f0, f3, f5, f6]
        have l3 := dg_mono (show hexN (s.take i) * 16 ≤ hexN (s.take (i + 1)) by omega)
        have l4 : (dg d).length ≤ 1 := dg_len (by omega)
        have l5 : (dg 16).length ≤ 1 := dg_len (by omega)
        refine ⟨by omega, by omega, by omega, by omega, by omega, by omega, by omega, by omega, by omega, by omega, by constructor <;> omega, Again.intro (i + 1) hlt (by omega) ?_⟩
        simp only [↓Br_t, ↓Br_f, ↓Brg_t, ↓Brg_f, bnC, Kseq_app, Nat.reduceMul, Nat.reduceLeDiff, Nat.reduceEqDiff, Nat.reduceLT, Nat.reduceAdd, Nat.reduceSub, ↓reduceIte, implies_true, reduceCtorEq, ne_eq, ↓shr_eq, IntKind.bits, Int.reduceToNat, Int.reducePow, dite_eq_ite, Value.oneCell', Nat.reduceBEq, Nat.reduceDiv, bnS, bnN, bnT, spB, vl_dg, W32_dg, unW_wds, wV, sdf, wds_nil]
        rw [← hst]
        exact ⟨⟨rfl, by omega⟩, Nat.le_refl _⟩
      · have f1 : decide (48 ≤ byteAt s i) = true := decide_eq_true (by omega)
        have f2 : decide (byteAt s i ≤ 57) = false := decide_eq_false (by omega)
        have f3 : decide (97 ≤ byteAt s i) = true := decide_eq_true r1
        have f4 : decide (byteAt s i ≤ 122) = true := decide_eq_true (by omega)
        have f0 : (byteAt s i - 97) % 256 = byteAt s i - 97 := by omega
        have g3 : wr .i64 (byteAt s i - 97) + 10 = ((hd (byteAt s i).toNat : Nat) : Int) := by
          rw [wr_small (by omega) (by omega)]
          unfold hd
          rw [if_neg (by omega)]
          omega
        have hlt16 : hd (byteAt s i).toNat < 16 := by unfold hd; rw [if_neg (by omega)]; omega
        generalize hd (byteAt s i).toNat = d at *
        have f5 : decide ((16 : Int) ≤ (d : Int)) = false := decide_eq_false (by omega)
        have f6 : wr .u64 (d : Int) = (d : Int) := wr64n (by omega)
        simp only [↓Br_t, ↓Br_f, ↓Brg_t, ↓Brg_f, bnC, Kseq_app, Nat.reduceMul, Nat.reduceLeDiff, Nat.reduceEqDiff, Nat.reduceLT, Nat.reduceAdd, Nat.reduceSub, ↓reduceIte, implies_true, reduceCtorEq, ne_eq, ↓shr_eq, IntKind.bits, Int.reduceToNat, Int.reducePow, dite_eq_ite, Value.oneCell', Nat.reduceBEq, Nat.reduceDiv, bnS, bnN, bnT, spB, vl_dg, W32_dg, unW_wds, wV, sdf, wds_nil, SBj, SBsf, SBnf, SBmf, SBjh, SBgh, pN, bI, e8, f1, f2, f3, f4, w16, f0, g3, f5, f6]
        have l3 := dg_mono (show hexN (s.take i) * 16 ≤ hexN (s.take (i + 1)) by omega)
        have l4 : (dg d).length ≤ 1 := dg_len (by omega)
        have l5 : (dg 16).length ≤ 1 := dg_len (by omega)
        refine ⟨by omega, by omega, by constructor <;> omega, by omega, by omega, by omega, by omega, by omega, by omega, by omega, by omega, by constructor <;> omega, Again.intro (i + 1) hlt (by omega) ?_⟩
        simp only [↓Br_t, ↓Br_f, ↓Brg_t, ↓Brg_f, bnC, Kseq_app, Nat.reduceMul, Nat.reduceLeDiff, Nat.reduceEqDiff, Nat.reduceLT, Nat.reduceAdd, Nat.reduceSub, ↓reduceIte, implies_true, reduceCtorEq, ne_eq, ↓shr_eq, IntKind.bits, Int.reduceToNat, Int.reducePow, dite_eq_ite, Value.oneCell', Nat.reduceBEq, Nat.reduceDiv, bnS, bnN, bnT, spB, vl_dg, W32_dg, unW_wds, wV, sdf, wds_nil]
        rw [← hst]
        exact ⟨⟨rfl, by omega⟩, Nat.le_refl _⟩
    · have h : i = s.length := by omega
      subst h
      have e8 : decide ((s.length : Int) < s.length) = false := decide_eq_false (by omega)
      rw [List.take_length]
      simp only [↓Br_t, ↓Br_f, ↓Brg_t, ↓Brg_f, bnC, Kseq_app, Nat.reduceMul, Nat.reduceLeDiff, Nat.reduceEqDiff, Nat.reduceLT, Nat.reduceAdd, Nat.reduceSub, ↓reduceIte, implies_true, reduceCtorEq, ne_eq, ↓shr_eq, IntKind.bits, Int.reduceToNat, Int.reducePow, dite_eq_ite, Value.oneCell', Nat.reduceBEq, Nat.reduceDiv, bnS, bnN, bnT, spB, vl_dg, W32_dg, unW_wds, wV, sdf, wds_nil, SBj, SBsf, SBnf, SBmf, SBjh, SBgh, pN, bI, e8]
      refine .inl ?_
      simp only [↓Br_t, ↓Br_f, ↓Brg_t, ↓Brg_f, bnC, Kseq_app, Nat.reduceMul, Nat.reduceLeDiff, Nat.reduceEqDiff, Nat.reduceLT, Nat.reduceAdd, Nat.reduceSub, ↓reduceIte, implies_true, reduceCtorEq, ne_eq, ↓shr_eq, IntKind.bits, Int.reduceToNat, Int.reducePow, dite_eq_ite, Value.oneCell', Nat.reduceBEq, Nat.reduceDiv, bnS, bnN, bnT, spB, vl_dg, W32_dg, unW_wds, wV, sdf, wds_nil]
      exact Nat.le_refl _
end Go.Proofs.YtmpklnhmempmgaaGreatDoor
