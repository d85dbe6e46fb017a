/- A list of bytes copied, and turned round in its place: the library's Clone and Reverse; numbers of bytes, the lowest first. Ed25519's field: sums, products, powers, inverses modulo p. -/
import Derived.Test.YtmpklnhmempmgaaGreatDoorQ26
namespace Go.Proofs.YtmpklnhmempmgaaGreatDoor
open Go.RowKit
set_option linter.unusedSimpArgs false
set_option maxRecDepth 100000
theorem u8_byteAt (l : List UInt8) (i : Nat) : u8 (byteAt l i) = l.getD i 0 := by
  unfold u8 byteAt
  rw [Int.toNat_natCast]
  exact UInt8.ofNat_toNat
theorem clone_fn (J : Inv) (nx : Nat) (b : List UInt8) (h0 : 0 < b.length) (h1 : b.length ≤ 1073741824) : FnH Tryz.prog J 29 [.by b] [] nx (.ro (.r (nx + 1))) [(nx + 1, .row 5 (.by b))] (nx + 2) := by
  refine fnH_intro Tryz.func29 rfl (by kernel_rfl) (Nat.le_of_ble_eq_true (by kernel_rfl)) (by kernel_rfl) (by kernel_rfl) (SGbb_ok J nx) rfl ?_
  unfold Tryz.f29
  simp only [↓Br_t, ↓Br_f, ↓Brg_t, ↓Brg_f, bnC, Kseq_app, Nat.reduceMul, Nat.reduceLeDiff, Nat.reduceEqDiff, Nat.reduceLT, Nat.reduceAdd, Nat.reduceSub, ↓reduceIte, implies_true, reduceCtorEq, ne_eq, ↓shr_eq, IntKind.bits, Int.reduceToNat, Int.reducePow, dite_eq_ite, Value.oneCell', Nat.reduceBEq, Nat.reduceDiv, bnS, bnN, bnT, spB, vl_dg, W32_dg, unW_wds, wV, sdf, wds_nil, SGbb, SGbf]
  refine ⟨h0, by omega, .inl ?_⟩
  simp only [↓Br_t, ↓Br_f, ↓Brg_t, ↓Brg_f, bnC, Kseq_app, Nat.reduceMul, Nat.reduceLeDiff, Nat.reduceEqDiff, Nat.reduceLT, Nat.reduceAdd, Nat.reduceSub, ↓reduceIte, implies_true, reduceCtorEq, ne_eq, ↓shr_eq, IntKind.bits, Int.reduceToNat, Int.reducePow, dite_eq_ite, Value.oneCell', Nat.reduceBEq, Nat.reduceDiv, bnS, bnN, bnT, spB, vl_dg, W32_dg, unW_wds, wV, sdf, wds_nil]
  exact Nat.le_refl _
/-- Turned round up to i from both ends. -/
structure RevI (l m : List UInt8) (i : Nat) : Prop where
  len : m.length = l.length
  half : 2 * i ≤ l.length + 1
  get : ∀ k, k < l.length → m.getD k 0 = if k < i ∨ l.length ≤ k + i then l.getD (l.length - 1 - k) 0 else l.getD k 0
theorem RevI.zero (l : List UInt8) : RevI l l 0 := ⟨rfl, by omega, fun k hk => by rw [if_neg (by omega)]⟩
theorem u8_getD_set {l : List UInt8} {k m : Nat} {x : UInt8} : (l.set k x).getD m 0 = if k = m ∧ k < l.length then x else l.getD m 0 := by
  simp only [List.getD_eq_getElem?_getD, List.getElem?_set]
  by_cases h : k = m
  · subst h
    by_cases h2 : k < l.length
    · simp [h2]
    · simp [h2]
  · simp [h]
theorem RevI.step {l m : List UInt8} {i : Nat} (h : RevI l m i) (hi : i + i + 1 < l.length) : RevI l ((m.set i (m.getD (l.length - 1 - i) 0)).set (l.length - 1 - i) (m.getD i 0)) (i + 1) := by
  have g1 : m.getD i 0 = l.getD i 0 := by rw [h.get i (by omega), if_neg (by omega)]
  have g2 : m.getD (l.length - 1 - i) 0 = l.getD (l.length - 1 - i) 0 := by rw [h.get _ (by omega), if_neg (by omega)]
  refine ⟨by rw [List.length_set, List.length_set]; exact h.len, by omega, fun k hk => ?_⟩
  rw [u8_getD_set, u8_getD_set, List.length_set, h.len, g1, g2]
  by_cases ha : l.length - 1 - i = k
  · rw [if_pos (And.intro ha (by omega)), if_pos (show k < i + 1 ∨ l.length ≤ k + (i + 1) by omega)]
    congr 1; omega
  · rw [if_neg (fun e => ha e.1)]
    by_cases hb : i = k
    · subst hb
      rw [if_pos (And.intro rfl (by omega)), if_pos (show i < i + 1 ∨ l.length ≤ i + (i + 1) by omega)]
    · rw [if_neg (fun e => hb e.1), h.get k hk]
      by_cases h3 : k < i ∨ l.length ≤ k + i
      · rw [if_pos h3, if_pos (by omega)]
      · rw [if_neg h3, if_neg (by omega)]
theorem RevI.fin {l m : List UInt8} {i : Nat} (h : RevI l m i) (hi : l.length ≤ i + i + 1) : m = l.reverse := by
  apply List.ext_getElem?
  intro k
  by_cases hk : k < l.length
  · have h1 := h.get k hk
    have hkm : k < m.length := by rw [h.len]; exact hk
    have e : (if k < i ∨ l.length ≤ k + i then l.getD (l.length - 1 - k) 0 else l.getD k 0) = l.getD (l.length - 1 - k) 0 := by
      split
      · rfl
      · congr 1; omega
    rw [e, List.getD_eq_getElem?_getD, List.getD_eq_getElem?_getD, List.getElem?_eq_getElem hkm, List.getElem?_eq_getElem (by omega), Option.getD_some, Option.getD_some] at h1
    rw [List.getElem?_eq_getElem hkm, List.getElem?_reverse hk, List.getElem?_eq_getElem (by omega), h1]
  · rw [List.getElem?_eq_none (by rw [h.len]; omega), List.getElem?_eq_none (by rw [List.length_reverse]; omega)]
theorem reverse_fn (J : Inv) (k nx : Nat) (l : List UInt8) (h1 : l.length ≤ 1073741824) : FnH Tryz.prog J 66 [.ro (.r k)] [(k, .row 5 (.by l))] nx (.tu []) [(k, .row 5 (.by l.reverse))] nx := by
  refine fnH_intro Tryz.func66 rfl (by kernel_rfl) (Nat.le_of_ble_eq_true (by kernel_rfl)) (by kernel_rfl) (by kernel_rfl) (SGbb_ok J nx) rfl ?_
  unfold Tryz.f66
  simp only [↓Br_t, ↓Br_f, ↓Brg_t, ↓Brg_f, bnC, Kseq_app, Nat.reduceMul, Nat.reduceLeDiff, Nat.reduceEqDiff, Nat.reduceLT, Nat.reduceAdd, Nat.reduceSub, ↓reduceIte, implies_true, reduceCtorEq, ne_eq, ↓shr_eq, IntKind.bits, Int.reduceToNat, Int.reducePow, dite_eq_ite, Value.oneCell', Nat.reduceBEq, Nat.reduceDiv, bnS, bnN, bnT, spB, vl_dg, W32_dg, unW_wds, wV, sdf, wds_nil, SGbb, SGbf]
  refine ⟨by constructor <;> omega, ?_⟩
  refine LoopC.intro (α := Nat × List UInt8) (fun p => RevI l p.2 p.1) (fun p => ⟨[(0, .ro (.r k)), (2, .i p.1), (3, .i ((l.length : Int) - 1 - p.1))], [(k, .row 5 (.by p.2))], nx⟩) (fun p => l.length - p.1) (0, l) (.zero l) ?_ ?_
  · simp only [↓Br_t, ↓Br_f, ↓Brg_t, ↓Brg_f, bnC, Kseq_app, Nat.reduceMul, Nat.reduceLeDiff, Nat.reduceEqDiff, Nat.reduceLT, Nat.reduceAdd, Nat.reduceSub, ↓reduceIte, implies_true, reduceCtorEq, ne_eq, ↓shr_eq, IntKind.bits, Int.reduceToNat, Int.reducePow, dite_eq_ite, Value.oneCell', Nat.reduceBEq, Nat.reduceDiv, bnS, bnN, bnT, spB, vl_dg, W32_dg, unW_wds, wV, sdf, wds_nil]
    exact ⟨⟨rfl, by omega⟩, Nat.le_refl _⟩
  · rintro ⟨i, m⟩ h2
    have h2 : RevI l m i := h2
    have h3 := h2.half
    have h4 := h2.len
    simp only [↓Br_t, ↓Br_f, ↓Brg_t, ↓Brg_f, bnC, Kseq_app, Nat.reduceMul, Nat.reduceLeDiff, Nat.reduceEqDiff, Nat.reduceLT, Nat.reduceAdd, Nat.reduceSub, ↓reduceIte, implies_true, reduceCtorEq, ne_eq, ↓shr_eq, IntKind.bits, Int.reduceToNat, Int.reducePow, dite_eq_ite, Value.oneCell', Nat.reduceBEq, Nat.reduceDiv, bnS, bnN, bnT, spB, vl_dg, W32_dg, unW_wds, wV, sdf, wds_nil, SGbb, SGbf]
    refine ⟨fun hb => ?_, fun hb => ?_⟩
    · refine DrawC.rows [(0, some (true, [])), (1, some (true, [])), (2, some (false, [])), (3, some (false, [])), (4, some (true, [])),
  (5, some (true, [])), (6, some (true, [])), (7, some (true, [])), (8, some (true, [])), (9, some (true, [])),
  (10, some (true, [])), (11, some (true, [])), (12, some (true, [])), (13, none), (14, some (false, [])), (15, none)] [] [13, 15] (by kernel_rfl) ?_
      have hb2 : i + i + 1 < l.length := by simp at hb; omega
      rw [show ((l.length : Int) - 1 - i) = ((l.length - 1 - i : Nat) : Int) by omega]
      simp only [↓Br_t, ↓Br_f, ↓Brg_t, ↓Brg_f, bnC, Kseq_app, Nat.reduceMul, Nat.reduceLeDiff, Nat.reduceEqDiff, Nat.reduceLT, Nat.reduceAdd, Nat.reduceSub, ↓reduceIte, implies_true, reduceCtorEq, ne_eq, ↓shr_eq, IntKind.bits, Int.reduceToNat, Int.reducePow, dite_eq_ite, Value.oneCell', Nat.reduceBEq, Nat.reduceDiv, bnS, bnN, bnT, spB, vl_dg, W32_dg, unW_wds, wV, sdf, wds_nil, SGbb, SGbf, u8_byteAt, List.length_set]
      have k1 := byteAt_lo m
      have k2 := byteAt_hi m
      refine ⟨by omega, by omega, by omega, by omega, by omega, by omega, by omega, by omega, by omega, k1 _, k2 _, by omega, by omega, by omega, k1 _, k2 _, by constructor <;> omega, by constructor <;> omega, Again.intro (i + 1, (m.set i (m.getD (l.length - 1 - i) 0)).set (l.length - 1 - i) (m.getD i 0)) (h2.step hb2) (by show l.length - (i + 1) < l.length - i; omega) ?_⟩
      simp only [↓Br_t, ↓Br_f, ↓Brg_t, ↓Brg_f, bnC, Kseq_app, Nat.reduceMul, Nat.reduceLeDiff, Nat.reduceEqDiff, Nat.reduceLT, Nat.reduceAdd, Nat.reduceSub, ↓reduceIte, implies_true, reduceCtorEq, ne_eq, ↓shr_eq, IntKind.bits, Int.reduceToNat, Int.reducePow, dite_eq_ite, Value.oneCell', Nat.reduceBEq, Nat.reduceDiv, bnS, bnN, bnT, spB, vl_dg, W32_dg, unW_wds, wV, sdf, wds_nil]
      exact ⟨⟨by omega, by omega⟩, Nat.le_refl _⟩
    · have hb2 : l.length ≤ i + i + 1 := by simp at hb; omega
      rw [← h2.fin hb2]
      refine .inl ?_
      simp only [↓Br_t, ↓Br_f, ↓Brg_t, ↓Brg_f, bnC, Kseq_app, Nat.reduceMul, Nat.reduceLeDiff, Nat.reduceEqDiff, Nat.reduceLT, Nat.reduceAdd, Nat.reduceSub, ↓reduceIte, implies_true, reduceCtorEq, ne_eq, ↓shr_eq, IntKind.bits, Int.reduceToNat, Int.reducePow, dite_eq_ite, Value.oneCell', Nat.reduceBEq, Nat.reduceDiv, bnS, bnN, bnT, spB, vl_dg, W32_dg, unW_wds, wV, sdf, wds_nil]
      exact Nat.le_refl _
def primeL : List Nat := [4294967277, 4294967295, 4294967295, 4294967295, 4294967295, 4294967295, 4294967295, 2147483647]
def curveL : List Nat := [324630691, 1978355146, 1094834347, 7342669, 2004478104, 2361868409, 728759923, 1375956206]
def rootL : List Nat := [3052494653, 991028440, 1389370247, 3502041081, 3255052376, 3568500582, 2956861684, 1417468799]
def curveN : Nat := vl curveL
def rootN : Nat := vl rootL
theorem prime_dg : primeL = dg p25519 := by
  have h : trim primeL = dg (vl primeL) := trim_dg (by unfold W32 primeL; decide)
  rw [show trim primeL = primeL by decide, show vl primeL = p25519 by rw [p25519_eq]; decide] at h
  exact h
theorem curve_dg : curveL = dg curveN := by
  have h : trim curveL = dg (vl curveL) := trim_dg (by unfold W32 curveL; decide)
  rw [show trim curveL = curveL by decide] at h
  exact h
theorem root_dg : rootL = dg rootN := by
  have h : trim rootL = dg (vl rootL) := trim_dg (by unfold W32 rootL; decide)
  rw [show trim rootL = rootL by decide] at h
  exact h
theorem curve_lt : curveN < p25519 := by rw [p25519_eq]; decide
theorem root_lt : rootN < p25519 := by rw [p25519_eq]; decide
theorem fzL_nums (h : List (Nat × Ob)) (k : IntKind) : ∀ l : List Int, fzL h (nums k l) = (nums k l, [])
  | [] => rfl
  | x :: r => by
    have := fzL_nums h k r
    simp only [nums, List.map_cons, fzL, fz1] at this ⊢
    rw [this]
    rfl
theorem fzL_wds (h : List (Nat × Ob)) (l : List Nat) : fzL h (wds l) = (wds l, []) := fzL_nums h _ _
theorem rt_wds (l : List Nat) : (wds l).flatMap rt1 = [] := by simp [wds, nums, rt1]
/-- What is taken for granted: the tables of the curve's numbers. -/
structure EdT (J : Inv) : Prop where
  p : J.gl.g 0 = some (.pe (.sq 8 .any [.st (wds primeL)]) 0 0)
  c : J.gl.g 1 = some (.pe (.sq 8 .any [.st (wds curveL)]) 0 0)
  r : J.gl.g 2 = some (.pe (.sq 8 .any [.st (wds rootL)]) 0 0)
def SGlmf : FuncId → List V → Option (List Prop × Bool × V) := fun f args =>
  if f = 67 then match args with
    | [.st L] => some ([L = wds (unW L), (unW L).length = 8], false, wV (unW L))
    | _ => none
  else none
def SGlm (J : Inv) : Sig := ⟨J, sdf, SGlmf, noH, 0⟩
theorem SGlm_ok (J : Inv) : SigOk Tryz.prog (SGlm J) := by
  refine .plain fun f args l fr r h hl => ?_
  change SGlmf f args = some (l, fr, r) at h
  unfold SGlmf at h
  split at h
  · rename_i hf; subst hf
    split at h
    · obtain ⟨rfl, rfl, rfl⟩ := jsome_tri h
      rename_i L
      have q1 : L = wds (unW L) := hl _ (by simp)
      have hp := limbs_fn J (unW L) (hl _ (by simp))
      rw [← q1] at hp
      exact hp
    · exact absurd h (by simp)
  · exact absurd h (by simp)
section
variable (J : Inv) (hJ : EdT J)
include hJ
theorem prime_fn : Fn Tryz.prog J 32 false [] (wV (dg p25519)) := by
  rw [← prime_dg]
  refine fn_intro Tryz.func32 rfl (by kernel_rfl) (Nat.le_of_ble_eq_true (by kernel_rfl)) (by kernel_rfl) (by kernel_rfl) (wV_cl _) (SGlm_ok J) ?_
  unfold Tryz.f32
  have h := hJ.p
  have h8 : primeL.length = 8 := rfl
  simp only [↓Br_t, ↓Br_f, ↓Brg_t, ↓Brg_f, bnC, Kseq_app, Nat.reduceMul, Nat.reduceLeDiff, Nat.reduceEqDiff, Nat.reduceLT, Nat.reduceAdd, Nat.reduceSub, ↓reduceIte, implies_true, reduceCtorEq, ne_eq, ↓shr_eq, IntKind.bits, Int.reduceToNat, Int.reducePow, dite_eq_ite, Value.oneCell', Nat.reduceBEq, Nat.reduceDiv, bnS, bnN, bnT, spB, vl_dg, W32_dg, unW_wds, wV, sdf, wds_nil, SGlm, SGlmf, h, h8, fzL_wds, rt_wds]
theorem curve_fn : Fn Tryz.prog J 72 false [] (wV (dg curveN)) := by
  rw [← curve_dg]
  refine fn_intro Tryz.func72 rfl (by kernel_rfl) (Nat.le_of_ble_eq_true (by kernel_rfl)) (by kernel_rfl) (by kernel_rfl) (wV_cl _) (SGlm_ok J) ?_
  unfold Tryz.f72
  have h := hJ.c
  have h8 : curveL.length = 8 := rfl
  simp only [↓Br_t, ↓Br_f, ↓Brg_t, ↓Brg_f, bnC, Kseq_app, Nat.reduceMul, Nat.reduceLeDiff, Nat.reduceEqDiff, Nat.reduceLT, Nat.reduceAdd, Nat.reduceSub, ↓reduceIte, implies_true, reduceCtorEq, ne_eq, ↓shr_eq, IntKind.bits, Int.reduceToNat, Int.reducePow, dite_eq_ite, Value.oneCell', Nat.reduceBEq, Nat.reduceDiv, bnS, bnN, bnT, spB, vl_dg, W32_dg, unW_wds, wV, sdf, wds_nil, SGlm, SGlmf, h, h8, fzL_wds, rt_wds]
theorem root_fn : Fn Tryz.prog J 76 false [] (wV (dg rootN)) := by
  rw [← root_dg]
  refine fn_intro Tryz.func76 rfl (by kernel_rfl) (Nat.le_of_ble_eq_true (by kernel_rfl)) (by kernel_rfl) (by kernel_rfl) (wV_cl _) (SGlm_ok J) ?_
  unfold Tryz.f76
  have h := hJ.r
  have h8 : rootL.length = 8 := rfl
  simp only [↓Br_t, ↓Br_f, ↓Brg_t, ↓Brg_f, bnC, Kseq_app, Nat.reduceMul, Nat.reduceLeDiff, Nat.reduceEqDiff, Nat.reduceLT, Nat.reduceAdd, Nat.reduceSub, ↓reduceIte, implies_true, reduceCtorEq, ne_eq, ↓shr_eq, IntKind.bits, Int.reduceToNat, Int.reducePow, dite_eq_ite, Value.oneCell', Nat.reduceBEq, Nat.reduceDiv, bnS, bnN, bnT, spB, vl_dg, W32_dg, unW_wds, wV, sdf, wds_nil, SGlm, SGlmf, h, h8, fzL_wds, rt_wds]
end
/-- A number that is not too long for a modulus. -/
structure Sm (a : List Nat) : Prop where
  len : a.length ≤ 33554432
  w : W32 a
  n : (dg (vl a)).length ≤ 128
theorem p_len : (dg p25519).length ≤ 8 := by rw [← prime_dg]; decide
theorem Sm.of_lt {n : Nat} (h : n < p25519) : Sm (dg n) := by
  have h1 := dg_mono (Nat.le_of_lt h)
  have h2 := p_len
  exact ⟨by omega, W32_dg _, by rw [vl_dg]; omega⟩
theorem Sm_curve : Sm (dg curveN) := .of_lt curve_lt
theorem Sm_root : Sm (dg rootN) := .of_lt root_lt
theorem Sm_nil : Sm [] := ⟨by simp, W32.nil, by simp [vl, dg_zero]⟩
theorem Sm_one : Sm [1] := ⟨by simp, W32.one (by omega), by rw [vl_one, dg_one]; simp⟩
theorem Sm_p : Sm (dg p25519) := ⟨by have := p_len; omega, W32_dg _, by rw [vl_dg]; have := p_len; omega⟩
theorem Sm.mods {a b : List Nat} (ha : Sm a) (hb : Sm b) : Mods [a, b, dg p25519] :=
  ⟨fun x hx => by
    have := Sm_p
    simp only [List.mem_cons, List.not_mem_nil, or_false] at hx
    rcases hx with rfl | rfl | rfl
    · exact ⟨ha.len, ha.w, ha.n⟩
    · exact ⟨hb.len, hb.w, hb.n⟩
    · exact ⟨this.len, this.w, this.n⟩, by simp, by show 2 ≤ vl (dg p25519); rw [vl_dg]; have := p_big; omega⟩
theorem Sm.mods2 {a : List Nat} (ha : Sm a) : Mods [a, dg p25519] :=
  ⟨fun x hx => by
    have := Sm_p
    simp only [List.mem_cons, List.not_mem_nil, or_false] at hx
    rcases hx with rfl | rfl
    · exact ⟨ha.len, ha.w, ha.n⟩
    · exact ⟨this.len, this.w, this.n⟩, by simp, by show 2 ≤ vl (dg p25519); rw [vl_dg]; have := p_big; omega⟩
/-- Sums, products, powers modulo p, sealed. -/
def addP : Nat → Nat → Nat := sealed _ fun x y => (x + y) % p25519
def mulP : Nat → Nat → Nat := sealed _ fun x y => x * y % p25519
def powP : Nat → Nat → Nat := sealed _ fun x y => x ^ y % p25519
theorem addP_eq (x y : Nat) : addP x y = (x + y) % p25519 := by unfold addP; rw [sealed_id]
theorem mulP_eq (x y : Nat) : mulP x y = x * y % p25519 := by unfold mulP; rw [sealed_id]
theorem powP_eq (x y : Nat) : powP x y = x ^ y % p25519 := by unfold powP; rw [sealed_id]
/-- What makes 1 of a number. -/
def invP : Nat → Nat := sealed _ pinv
theorem invP_eq (x : Nat) : invP x = pinv x := by unfold invP; rw [sealed_id]
/-- x - y modulo p. -/
def subP : Nat → Nat → Nat := sealed _ fun x y => subM (x % p25519) (y % p25519) p25519
theorem subP_eq (x y : Nat) : subP x y = subM (x % p25519) (y % p25519) p25519 := by unfold subP; rw [sealed_id]
theorem addP_lt (x y : Nat) : addP x y < p25519 := by rw [addP_eq]; exact Nat.mod_lt _ p_pos
theorem mulP_lt (x y : Nat) : mulP x y < p25519 := by rw [mulP_eq]; exact Nat.mod_lt _ p_pos
theorem powP_lt (x y : Nat) : powP x y < p25519 := by rw [powP_eq]; exact Nat.mod_lt _ p_pos
theorem subP_lt (x y : Nat) : subP x y < p25519 := by rw [subP_eq]; exact Nat.mod_lt _ p_pos
theorem invP_lt (x : Nat) : invP x < p25519 := by rw [invP_eq]; exact Nat.mod_lt _ p_pos
def SGe0f : FuncId → List V → Option (List Prop × Bool × V) := fun f args =>
  if f = 32 then match args with
    | [] => some ([], false, wV (dg p25519))
    | _ => none
  else if f = 72 then match args with
    | [] => some ([], false, wV (dg curveN))
    | _ => none
  else if f = 76 then match args with
    | [] => some ([], false, wV (dg rootN))
    | _ => none
  else if f = 102 then match args with
    | [.sq 1 da La, .sq 1 db Lb, .sq 1 dm Lm] => some ([da = .val (.int .u32 0), La = wds (unW La), db = .val (.int .u32 0), Lb = wds (unW Lb), dm = .val (.int .u32 0), Lm = wds (unW Lm), Mods [(unW La), (unW Lb), (unW Lm)]], false, .tu [wV (dg ((vl (unW La) + vl (unW Lb)) % vl (unW Lm))), .i 0])
    | _ => none
  else if f = 100 then match args with
    | [.sq 1 da La, .sq 1 db Lb, .sq 1 dm Lm] => some ([da = .val (.int .u32 0), La = wds (unW La), db = .val (.int .u32 0), Lb = wds (unW Lb), dm = .val (.int .u32 0), Lm = wds (unW Lm), Mods [(unW La), (unW Lb), (unW Lm)]], false, .tu [wV (dg (subM (vl (unW La) % vl (unW Lm)) (vl (unW Lb) % vl (unW Lm)) (vl (unW Lm)))), .i 0])
    | _ => none
  else if f = 99 then match args with
    | [.sq 1 da La, .sq 1 db Lb, .sq 1 dm Lm] => some ([da = .val (.int .u32 0), La = wds (unW La), db = .val (.int .u32 0), Lb = wds (unW Lb), dm = .val (.int .u32 0), Lm = wds (unW Lm), Mods [(unW La), (unW Lb), (unW Lm)]], false, .tu [wV (dg ((vl (unW La) * vl (unW Lb)) % vl (unW Lm))), .i 0])
    | _ => none
  else if f = 103 then match args with
    | [.sq 1 da La, .sq 1 db Lb, .sq 1 dm Lm] => some ([da = .val (.int .u32 0), La = wds (unW La), db = .val (.int .u32 0), Lb = wds (unW Lb), dm = .val (.int .u32 0), Lm = wds (unW Lm), Mods [(unW La), (unW Lb), (unW Lm)]], false, .tu [wV (dg (vl (unW La) ^ vl (unW Lb) % vl (unW Lm))), .i 0])
    | _ => none
  else none
def SGe0 (J : Inv) : Sig := ⟨J, sdf, SGe0f, noH, 0⟩
theorem SGe0_ok (J : Inv) (hJ : EdT J) : SigOk Tryz.prog (SGe0 J) := by
  refine .plain fun f args l fr r h hl => ?_
  change SGe0f f args = some (l, fr, r) at h
  unfold SGe0f at h
  split at h
  · rename_i hf; subst hf
    split at h
    · obtain ⟨rfl, rfl, rfl⟩ := jsome_tri h
      have hp := prime_fn J hJ
      exact hp
    · exact absurd h (by simp)
  · split at h
    · rename_i hf; subst hf
      split at h
      · obtain ⟨rfl, rfl, rfl⟩ := jsome_tri h
        have hp := curve_fn J hJ
        exact hp
      · exact absurd h (by simp)
    · split at h
      · rename_i hf; subst hf
        split at h
        · obtain ⟨rfl, rfl, rfl⟩ := jsome_tri h
          have hp := root_fn J hJ
          exact hp
        · exact absurd h (by simp)
      · split at h
        · rename_i hf; subst hf
          split at h
          · rename_i da La db Lb dm Lm
            obtain ⟨rfl, rfl, rfl⟩ := jsome_tri h
            obtain ⟨qda, qla, qdb, qlb, qdm, qlm, c0, -⟩ := hl.un
            subst qda qdb qdm
            have hp := addm_fn J (unW La) (unW Lb) (unW Lm) c0
            unfold wV at hp
            rw [← qla, ← qlb, ← qlm] at hp
            exact hp
          · exact absurd h (by simp)
        · split at h
          · rename_i hf; subst hf
            split at h
            · rename_i da La db Lb dm Lm
              obtain ⟨rfl, rfl, rfl⟩ := jsome_tri h
              obtain ⟨qda, qla, qdb, qlb, qdm, qlm, c0, -⟩ := hl.un
              subst qda qdb qdm
              have hp := subm_fn J (unW La) (unW Lb) (unW Lm) c0
              unfold wV at hp
              rw [← qla, ← qlb, ← qlm] at hp
              exact hp
            · exact absurd h (by simp)
          · split at h
            · rename_i hf; subst hf
              split at h
              · rename_i da La db Lb dm Lm
                obtain ⟨rfl, rfl, rfl⟩ := jsome_tri h
                obtain ⟨qda, qla, qdb, qlb, qdm, qlm, c0, -⟩ := hl.un
                subst qda qdb qdm
                have hp := mulm_fn J (unW La) (unW Lb) (unW Lm) c0
                unfold wV at hp
                rw [← qla, ← qlb, ← qlm] at hp
                exact hp
              · exact absurd h (by simp)
            · split at h
              · rename_i hf; subst hf
                split at h
                · rename_i da La db Lb dm Lm
                  obtain ⟨rfl, rfl, rfl⟩ := jsome_tri h
                  obtain ⟨qda, qla, qdb, qlb, qdm, qlm, c0, -⟩ := hl.un
                  subst qda qdb qdm
                  have hp := expm_fn J (unW La) (unW Lb) (unW Lm) c0
                  unfold wV at hp
                  rw [← qla, ← qlb, ← qlm] at hp
                  exact hp
                · exact absurd h (by simp)
              · exact absurd h (by simp)
section
variable (J : Inv) (hJ : EdT J) (a b : List Nat) (ha : Sm a) (hb : Sm b)
include hJ ha
theorem eadd_fn (hb : Sm b) : Fn Tryz.prog J 71 false [wV a, wV b] (wV (dg (addP (vl a) (vl b)))) := by
  refine fn_intro Tryz.func71 rfl (by kernel_rfl) (Nat.le_of_ble_eq_true (by kernel_rfl)) (by kernel_rfl) (by kernel_rfl) (wV_cl _) (SGe0_ok J hJ) ?_
  unfold Tryz.f71
  simp only [↓Br_t, ↓Br_f, ↓Brg_t, ↓Brg_f, bnC, Kseq_app, Nat.reduceMul, Nat.reduceLeDiff, Nat.reduceEqDiff, Nat.reduceLT, Nat.reduceAdd, Nat.reduceSub, ↓reduceIte, implies_true, reduceCtorEq, ne_eq, ↓shr_eq, IntKind.bits, Int.reduceToNat, Int.reducePow, dite_eq_ite, Value.oneCell', Nat.reduceBEq, Nat.reduceDiv, bnS, bnN, bnT, spB, vl_dg, W32_dg, unW_wds, wV, sdf, wds_nil, SGe0, SGe0f, addP_eq, mulP_eq, powP_eq]
  exact ha.mods hb
theorem esub_fn (hb : Sm b) : Fn Tryz.prog J 69 false [wV a, wV b] (wV (dg (subP (vl a) (vl b)))) := by
  refine fn_intro Tryz.func69 rfl (by kernel_rfl) (Nat.le_of_ble_eq_true (by kernel_rfl)) (by kernel_rfl) (by kernel_rfl) (wV_cl _) (SGe0_ok J hJ) ?_
  unfold Tryz.f69
  simp only [↓Br_t, ↓Br_f, ↓Brg_t, ↓Brg_f, bnC, Kseq_app, Nat.reduceMul, Nat.reduceLeDiff, Nat.reduceEqDiff, Nat.reduceLT, Nat.reduceAdd, Nat.reduceSub, ↓reduceIte, implies_true, reduceCtorEq, ne_eq, ↓shr_eq, IntKind.bits, Int.reduceToNat, Int.reducePow, dite_eq_ite, Value.oneCell', Nat.reduceBEq, Nat.reduceDiv, bnS, bnN, bnT, spB, vl_dg, W32_dg, unW_wds, wV, sdf, wds_nil, SGe0, SGe0f, subP_eq]
  exact ha.mods hb
theorem emul_fn (hb : Sm b) : Fn Tryz.prog J 68 false [wV a, wV b] (wV (dg (mulP (vl a) (vl b)))) := by
  refine fn_intro Tryz.func68 rfl (by kernel_rfl) (Nat.le_of_ble_eq_true (by kernel_rfl)) (by kernel_rfl) (by kernel_rfl) (wV_cl _) (SGe0_ok J hJ) ?_
  unfold Tryz.f68
  simp only [↓Br_t, ↓Br_f, ↓Brg_t, ↓Brg_f, bnC, Kseq_app, Nat.reduceMul, Nat.reduceLeDiff, Nat.reduceEqDiff, Nat.reduceLT, Nat.reduceAdd, Nat.reduceSub, ↓reduceIte, implies_true, reduceCtorEq, ne_eq, ↓shr_eq, IntKind.bits, Int.reduceToNat, Int.reducePow, dite_eq_ite, Value.oneCell', Nat.reduceBEq, Nat.reduceDiv, bnS, bnN, bnT, spB, vl_dg, W32_dg, unW_wds, wV, sdf, wds_nil, SGe0, SGe0f, addP_eq, mulP_eq, powP_eq]
  exact ha.mods hb
theorem epow_fn (hb : Sm b) : Fn Tryz.prog J 73 false [wV a, wV b] (wV (dg (powP (vl a) (vl b)))) := by
  refine fn_intro Tryz.func73 rfl (by kernel_rfl) (Nat.le_of_ble_eq_true (by kernel_rfl)) (by kernel_rfl) (by kernel_rfl) (wV_cl _) (SGe0_ok J hJ) ?_
  unfold Tryz.f73
  simp only [↓Br_t, ↓Br_f, ↓Brg_t, ↓Brg_f, bnC, Kseq_app, Nat.reduceMul, Nat.reduceLeDiff, Nat.reduceEqDiff, Nat.reduceLT, Nat.reduceAdd, Nat.reduceSub, ↓reduceIte, implies_true, reduceCtorEq, ne_eq, ↓shr_eq, IntKind.bits, Int.reduceToNat, Int.reducePow, dite_eq_ite, Value.oneCell', Nat.reduceBEq, Nat.reduceDiv, bnS, bnN, bnT, spB, vl_dg, W32_dg, unW_wds, wV, sdf, wds_nil, SGe0, SGe0f, addP_eq, mulP_eq, powP_eq]
  exact ha.mods hb
omit hJ in
theorem invp_fn : Fn Tryz.prog J 101 false [wV a, wV (dg p25519)] (.tu [wV (dg (pinv (vl a))), .i (if vl a % p25519 = 0 then 61 else 0 : Nat)]) := by
  have hm := ha.mods2
  have h2 : p25519 % 2 = 1 := by rw [p25519_eq]
  have hp := p_big
  by_cases h0 : vl a % p25519 = 0
  · refine inv_gen J a p25519 p25519 0 hm h2 (Nat.le_refl _) p_pos ?_ _ _ (by rw [pinv_zero h0, if_neg (by omega)]) (by rw [if_pos h0, if_neg (by omega)])
    rw [h0]
    exact odd0_fn J p25519
  · refine inv_gen J a p25519 1 (pinv (vl a)) hm h2 (by omega) (Nat.mod_lt _ p_pos) ?_ _ _ (by rw [if_pos rfl]) (by rw [if_neg h0, if_pos rfl])
    exact odd_fn J (vl a % p25519) p25519 (pinv (vl a)) (by omega) h2 (by have := p_len; omega) (Nat.mod_lt _ p_pos) (Nat.mod_lt _ p_pos) (pinv_mul h0)
end
def SGe1f : FuncId → List V → Option (List Prop × Bool × V) := fun f args =>
  if f = 101 then match args with
    | [.sq 1 da La, .sq 1 dm Lm] => some ([da = .val (.int .u32 0), La = wds (unW La), dm = .val (.int .u32 0), Lm = wds (unW Lm), Sm (unW La), (unW Lm) = dg p25519], false, .tu [wV (dg (pinv (vl (unW La)))), .i (if vl (unW La) % p25519 = 0 then 61 else 0 : Nat)])
    | _ => none
  else SGe0f f args
def SGe1 (J : Inv) : Sig := ⟨J, sdf, SGe1f, noH, 0⟩
theorem SGe1_ok (J : Inv) (hJ : EdT J) : SigOk Tryz.prog (SGe1 J) := by
  refine .plain fun f args l fr r h hl => ?_
  change SGe1f f args = some (l, fr, r) at h
  unfold SGe1f at h
  split at h
  · rename_i hf; subst hf
    split at h
    · rename_i da La dm Lm
      obtain ⟨rfl, rfl, rfl⟩ := jsome_tri h
      obtain ⟨qda, qla, qdm, qlm, c0, c1, -⟩ := hl.un
      subst qda qdm
      have hp := (by have h := invp_fn J (unW La) c0; rwa [← c1] at h)
      unfold wV at hp
      rw [← qla, ← qlm] at hp
      exact hp
    · exact absurd h (by simp)
  · exact (SGe0_ok J hJ).1 f args l fr r h hl
theorem einv_fn (J : Inv) (hJ : EdT J) (a : List Nat) (ha : Sm a) : Fn Tryz.prog J 70 false [wV a] (wV (dg (invP (vl a)))) := by
  refine fn_intro Tryz.func70 rfl (by kernel_rfl) (Nat.le_of_ble_eq_true (by kernel_rfl)) (by kernel_rfl) (by kernel_rfl) (wV_cl _) (SGe1_ok J hJ) ?_
  unfold Tryz.f70
  simp only [↓Br_t, ↓Br_f, ↓Brg_t, ↓Brg_f, bnC, Kseq_app, Nat.reduceMul, Nat.reduceLeDiff, Nat.reduceEqDiff, Nat.reduceLT, Nat.reduceAdd, Nat.reduceSub, ↓reduceIte, implies_true, reduceCtorEq, ne_eq, ↓shr_eq, IntKind.bits, Int.reduceToNat, Int.reducePow, dite_eq_ite, Value.oneCell', Nat.reduceBEq, Nat.reduceDiv, bnS, bnN, bnT, spB, vl_dg, W32_dg, unW_wds, wV, sdf, wds_nil, SGe1, SGe1f, SGe0f, invP_eq]
  exact ha
end Go.Proofs.YtmpklnhmempmgaaGreatDoor
