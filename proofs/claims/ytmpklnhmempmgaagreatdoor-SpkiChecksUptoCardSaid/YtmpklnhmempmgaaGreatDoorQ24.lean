/- Numbers modulo another one: the walk of the inverse by halving and subtracting. A walk that is put together by hand out of pieces that the generator walks. Numbers modulo another one: the walk of the program's inverse (with its goto). -/
import Derived.Test.YtmpklnhmempmgaaGreatDoorQ23
import Derived.Test.YtmpklnhmempmgaaGreatDoorQ16
import Derived.ScopeJumps
namespace Go.Proofs.YtmpklnhmempmgaaGreatDoor
open Go.RowKit
set_option linter.unusedSimpArgs false
set_option maxRecDepth 100000
def halfM (x m : Nat) : Nat := if x % 2 = 1 then (x + m) / 2 else x / 2
theorem tb_zero (n : Nat) : tb n 0 = (n % 2 == 1) := by unfold tb; rw [Nat.pow_zero, Nat.div_one]
theorem half_fn (J : Inv) (x m : List Nat) (hx : x.length ≤ 33554432) (hm : m.length ≤ 33554432) (wx : W32 x) (wm : W32 m) : Fn Tryz.prog J 133 false [wV x, wV m] (wV (dg (halfM (vl x) (vl m)))) := by
  refine fn_intro Tryz.func133 rfl (by kernel_rfl) (Nat.le_of_ble_eq_true (by kernel_rfl)) (by kernel_rfl) (by kernel_rfl) (wV_cl _) (SGm3_ok J) ?_
  unfold Tryz.f133
  simp only [bnC, Kseq_app, Nat.reduceMul, Nat.reduceLeDiff, Nat.reduceEqDiff, Nat.reduceLT, Nat.reduceAdd, Nat.reduceSub, ↓reduceIte, implies_true, reduceCtorEq, ne_eq, ↓shr_eq, IntKind.bits, Int.reduceToNat, Int.reducePow, dite_eq_ite, Value.oneCell', Nat.reduceBEq, Nat.reduceDiv, bnS, bnN, bnT, spB, vl_dg, W32_dg, unW_wds, wV, sdf, wds_nil, SGm3, SGm3f, SGwf, SGm2f, SGm1f]
  have lx := trim_len x
  have lm := trim_len m
  rw [trim_dg wx] at lx
  rw [trim_dg wm] at lm
  have hs := dg_sum_len (Nat.le_trans lx hx) (Nat.le_trans lm hm)
  unfold halfM
  rw [tb_zero]
  refine ⟨by constructor <;> omega, wx, fun h => ⟨by omega, by omega, wx, wm, by omega, by omega, by omega, ?_⟩, fun h => ⟨by omega, by omega, by omega, wx, ?_⟩⟩
  · have h1 : vl x % 2 = 1 := by simpa using h
    rw [if_pos h1]
  · have h1 : ¬ vl x % 2 = 1 := by simpa using h
    rw [if_neg h1]
theorem cancel2 {m x y : Nat} (hm : m % 2 = 1) (h : 2 * x % m = 2 * y % m) : x % m = y % m := by
  have e : ∀ z, ((m + 1) / 2 * (2 * z)) % m = z % m := fun z => by
    rw [← Nat.mul_assoc, show (m + 1) / 2 * 2 = m + 1 by omega, Nat.add_mul, Nat.one_mul, Nat.mul_add_mod]
  rw [← e x, ← e y, Nat.mul_mod, h, ← Nat.mul_mod]
theorem cancel_add {m x y c d : Nat} (h : (x + c) % m = (y + d) % m) (hc : c % m = d % m) : x % m = y % m := by
  have h2 : (y + d) % m = (y + c) % m := by rw [Nat.add_mod, ← hc, ← Nat.add_mod]
  rw [h2] at h
  have h3 : ((x : Int) + c) % m = ((y : Int) + c) % m := by exact_mod_cast h
  have h4 := Int.emod_add_cancel_right (i := (c : Int)) (m := (x : Int)) (k := (y : Int)) (n := (m : Int))
  exact_mod_cast h4.1 h3
theorem halfM_lt {x m : Nat} (hm : m % 2 = 1) (hx : x < m) : halfM x m < m := by unfold halfM; split <;> omega
theorem halfM_mod {x m a u : Nat} (hm : m % 2 = 1) (h : x * a % m = u % m) (hu : u % 2 = 0) : halfM x m * a % m = u / 2 % m := by
  refine cancel2 hm ?_
  rw [show 2 * (u / 2) = u by omega, ← h, ← Nat.mul_assoc]
  unfold halfM
  split
  · rw [show 2 * ((x + m) / 2) = x + m by omega, Nat.add_mul, Nat.add_mul_mod_self_left]
  · rw [show 2 * (x / 2) = x by omega]
theorem subM_lt {x y m : Nat} (hm : 0 < m) : subM x y m < m := Nat.mod_lt _ hm
theorem subM_mod {p q a m u v : Nat} (hq : q < m) (h1 : p * a % m = u % m) (h2 : q * a % m = v % m) (huv : v ≤ u) : subM p q m * a % m = (u - v) % m := by
  refine cancel_add (c := q * a) (d := v) ?_ h2
  unfold subM
  rw [Nat.add_mod, Nat.mod_mul_mod, ← Nat.add_mod, ← Nat.add_mul, show p + m - q + q = p + m by omega, Nat.add_mul, Nat.add_mul_mod_self_left, h1, show u - v + v = u by omega]
/-- The state of the inverse's loop: u is p a, v is q a. -/
structure EuI (a m u v p q : Nat) : Prop where
  v0 : 0 < v
  um : u ≤ m
  vm : v ≤ m
  pm : p < m
  qm : q < m
  hp : p * a % m = u % m
  hq : q * a % m = v % m
  g : ∀ d, d ∣ u → d ∣ v → d = 1
theorem EuI.hu {a m u v p q : Nat} (hm : m % 2 = 1) (h : EuI a m u v p q) (hu : u % 2 = 0) : EuI a m (u / 2) v (halfM p m) q :=
  ⟨h.v0, by have := h.um; omega, h.vm, halfM_lt hm h.pm, h.qm, halfM_mod hm h.hp hu, h.hq, fun d h1 h2 => h.g d (Nat.dvd_trans h1 ⟨2, by omega⟩) h2⟩
theorem EuI.hv {a m u v p q : Nat} (hm : m % 2 = 1) (h : EuI a m u v p q) (hv : v % 2 = 0) : EuI a m u (v / 2) p (halfM q m) :=
  ⟨by have := h.v0; omega, h.um, by have := h.vm; omega, h.pm, halfM_lt hm h.qm, h.hp, halfM_mod hm h.hq hv, fun d h1 h2 => h.g d h1 (Nat.dvd_trans h2 ⟨2, by omega⟩)⟩
theorem EuI.su {a m u v p q : Nat} (h : EuI a m u v p q) (hu : v ≤ u) : EuI a m (u - v) v (subM p q m) q :=
  ⟨h.v0, by have := h.um; omega, h.vm, subM_lt (by have := h.pm; omega), h.qm, subM_mod h.qm h.hp h.hq hu, h.hq, fun d h1 h2 => h.g d (by have := Nat.dvd_add h1 h2; rwa [Nat.sub_add_cancel hu] at this) h2⟩
theorem EuI.sv {a m u v p q : Nat} (h : EuI a m u v p q) (hu : u < v) : EuI a m u (v - u) p (subM q p m) :=
  ⟨by omega, h.um, by have := h.vm; omega, h.pm, subM_lt (by have := h.pm; omega), h.hp, subM_mod h.pm h.hq h.hp (Nat.le_of_lt hu), fun d h1 h2 => h.g d h1 (by have := Nat.dvd_add h2 h1; rwa [Nat.sub_add_cancel (Nat.le_of_lt hu)] at this)⟩
/-- One inverse. -/
theorem inv_one {a m x y : Nat} (hx : x < m) (hy : y < m) (h1 : x * a % m = 1 % m) (h2 : y * a % m = 1 % m) : x = y := by
  have e : x * (y * a) % m = y * (x * a) % m := by rw [Nat.mul_left_comm]
  rw [Nat.mul_mod, h2, Nat.mul_mod y, h1, ← Nat.mul_mod, ← Nat.mul_mod, Nat.mul_one, Nat.mul_one, Nat.mod_eq_of_lt hx, Nat.mod_eq_of_lt hy] at e
  exact e
theorem EuI.start {a m x : Nat} (hm : 1 < m) (ha : a < m) (hx : x * a % m = 1) : EuI a m a m 1 0 :=
  ⟨by omega, by omega, by omega, hm, by omega, by rw [Nat.one_mul], by rw [Nat.zero_mul, Nat.mod_self, Nat.zero_mod], fun d h1 h2 => by
    have h3 : d ∣ x * a := Nat.dvd_trans h1 (Nat.dvd_mul_left a x)
    have h4 := (Nat.dvd_mod_iff h2).2 h3
    rw [hx] at h4
    exact Nat.dvd_one.1 h4⟩
theorem EuI.fin {a m v p q x : Nat} (h : EuI a m 0 v p q) (hx : x < m) (hxa : x * a % m = 1) (hm : 1 < m) : v = 1 ∧ q = x := by
  have h1 : v = 1 := h.g v (Nat.dvd_zero v) (Nat.dvd_refl v)
  subst h1
  exact ⟨rfl, inv_one h.qm hx h.hq (by rw [hxa, Nat.mod_eq_of_lt hm])⟩
def SGm4f : FuncId → List V → Option (List Prop × Bool × V) := fun f args =>
  if f = 133 then match args with
    | [.sq 1 dx Lx, .sq 1 dm Lm] => some ([dx = .val (.int .u32 0), Lx = wds (unW Lx), dm = .val (.int .u32 0), Lm = wds (unW Lm), (unW Lx).length ≤ 33554432, (unW Lm).length ≤ 33554432, W32 (unW Lx), W32 (unW Lm)], false, wV (dg (halfM (vl (unW Lx)) (vl (unW Lm)))))
    | _ => none
  else SGm3f f args
def SGm4 (J : Inv) : Sig := ⟨J, sdf, SGm4f, noH, 0⟩
theorem SGm4_ok (J : Inv) : SigOk Tryz.prog (SGm4 J) := by
  refine .plain fun f args l fr r h hl => ?_
  change SGm4f f args = some (l, fr, r) at h
  unfold SGm4f at h
  split at h
  · rename_i hf; subst hf
    split at h
    · rename_i dx Lx dm Lm
      obtain ⟨rfl, rfl, rfl⟩ := jsome_tri h
      obtain ⟨qdx, qlx, qdm, qlm, c0, c1, c2, c3, -⟩ := hl.un
      subst qdx qdm
      have hp := half_fn J (unW Lx) (unW Lm) c0 c1 c2 c3
      unfold wV at hp
      rw [← qlx, ← qlm] at hp
      exact hp
    · exact absurd h (by simp)
  · exact (SGm3_ok J ).1 f args l fr r h hl
theorem dg_one : dg 1 = [1] := by rw [dg, dif_neg (by omega)]; rw [show 1 % 4294967296 = 1 from rfl, show 1 / 4294967296 = 0 from rfl, dg_zero]
theorem odd_fn (J : Inv) (a m x : Nat) (hm : 1 < m) (h2 : m % 2 = 1) (hl : (dg m).length ≤ 1024) (ha : a < m) (hx : x < m) (hxa : x * a % m = 1) : Fn Tryz.prog J 121 false [wV (dg a), wV (dg m)] (.tu [wV (dg 1), wV (dg x)]) := by
  refine fn_intro Tryz.func121 rfl (by kernel_rfl) (Nat.le_of_ble_eq_true (by kernel_rfl)) (by kernel_rfl) (by kernel_rfl) (by simp [V.cl, clL, wV, wds_cl, V.i]) (SGm4_ok J) ?_
  unfold Tryz.f121
  simp only [bnC, Kseq_app, Nat.reduceMul, Nat.reduceLeDiff, Nat.reduceEqDiff, Nat.reduceLT, Nat.reduceAdd, Nat.reduceSub, ↓reduceIte, implies_true, reduceCtorEq, ne_eq, ↓shr_eq, IntKind.bits, Int.reduceToNat, Int.reducePow, dite_eq_ite, Value.oneCell', Nat.reduceBEq, Nat.reduceDiv, bnS, bnN, bnT, spB, vl_dg, W32_dg, unW_wds, wV, sdf, wds_nil, SGm4, SGm4f, SGm3f, SGwf, SGm2f, SGm1f, unL, unW_lit]
  have hle : ∀ y, y ≤ m → (dg y).length ≤ 1024 := fun y hy => Nat.le_trans (dg_mono hy) hl
  refine LoopC.introA (α := Nat × Nat × Nat × Nat) (fun y => EuI a m y.1 y.2.1 y.2.2.1 y.2.2.2) (fun y => ⟨[(1, wV (dg m)), (6, wV (dg y.1)), (7, wV (dg y.2.1)), (8, wV (dg y.2.2.1)), (9, wV (dg y.2.2.2))], [], 2⟩) (fun y => y.1 + y.2.1) (a, m, 1, 0) [.fzs 0, .fzs 1] (EuI.start hm ha hxa) ?_ ?_
  · simp only [bnC, Kseq_app, Nat.reduceMul, Nat.reduceLeDiff, Nat.reduceEqDiff, Nat.reduceLT, Nat.reduceAdd, Nat.reduceSub, ↓reduceIte, implies_true, reduceCtorEq, ne_eq, ↓shr_eq, IntKind.bits, Int.reduceToNat, Int.reducePow, dite_eq_ite, Value.oneCell', Nat.reduceBEq, Nat.reduceDiv, bnS, bnN, bnT, spB, vl_dg, W32_dg, unW_wds, wV, sdf, wds_nil, dg_one, dg_zero]
    rfl
  · rintro ⟨u, v, p, q⟩ h0
    have h0 : EuI a m u v p q := h0
    have b1 := hle _ h0.um
    simp only [bnC, Kseq_app, Nat.reduceMul, Nat.reduceLeDiff, Nat.reduceEqDiff, Nat.reduceLT, Nat.reduceAdd, Nat.reduceSub, ↓reduceIte, implies_true, reduceCtorEq, ne_eq, ↓shr_eq, IntKind.bits, Int.reduceToNat, Int.reducePow, dite_eq_ite, Value.oneCell', Nat.reduceBEq, Nat.reduceDiv, bnS, bnN, bnT, spB, vl_dg, W32_dg, unW_wds, wV, sdf, wds_nil, SGm4, SGm4f, SGm3f, SGwf, SGm2f, SGm1f, unL, unW_lit]
    refine ⟨by omega, fun hb => ?_, fun hb => ?_⟩
    · have hu0 : 0 < u := by
        rcases Nat.eq_zero_or_pos u with rfl | h
        · rw [bl_zero] at hb; simp at hb
        · exact h
      refine LoopC.intro (α := Nat × Nat) (fun y => EuI a m y.1 v y.2 q ∧ 0 < y.1 ∧ y.1 ≤ u) (fun y => ⟨[(1, wV (dg m)), (6, wV (dg y.1)), (7, wV (dg v)), (8, wV (dg y.2)), (9, wV (dg q))], [], 2⟩) (fun y => y.1) (u, p) ⟨h0, hu0, Nat.le_refl _⟩ ?_ ?_
      · simp only [bnC, Kseq_app, Nat.reduceMul, Nat.reduceLeDiff, Nat.reduceEqDiff, Nat.reduceLT, Nat.reduceAdd, Nat.reduceSub, ↓reduceIte, implies_true, reduceCtorEq, ne_eq, ↓shr_eq, IntKind.bits, Int.reduceToNat, Int.reducePow, dite_eq_ite, Value.oneCell', Nat.reduceBEq, Nat.reduceDiv, bnS, bnN, bnT, spB, vl_dg, W32_dg, unW_wds, wV, sdf, wds_nil]
      · rintro ⟨u1, p1⟩ ⟨g0, g1, g2⟩
        have g0 : EuI a m u1 v p1 q := g0
        have g1 : 0 < u1 := g1
        have g2 : u1 ≤ u := g2
        have b2 := hle _ g0.um
        have b3 := hle _ (Nat.le_of_lt g0.pm)
        simp only [bnC, Kseq_app, Nat.reduceMul, Nat.reduceLeDiff, Nat.reduceEqDiff, Nat.reduceLT, Nat.reduceAdd, Nat.reduceSub, ↓reduceIte, implies_true, reduceCtorEq, ne_eq, ↓shr_eq, IntKind.bits, Int.reduceToNat, Int.reducePow, dite_eq_ite, Value.oneCell', Nat.reduceBEq, Nat.reduceDiv, bnS, bnN, bnT, spB, vl_dg, W32_dg, unW_wds, wV, sdf, wds_nil, SGm4, SGm4f, SGm3f, SGwf, SGm2f, SGm1f, unL, unW_lit, tb_zero]
        refine ⟨by constructor <;> omega, fun hb => ?_, fun hb => ?_⟩
        · have he : u1 % 2 = 0 := by simp at hb; omega
          refine ⟨by omega, by omega, by omega, by omega, by omega, Again.intro (u1 / 2, halfM p1 m) ⟨g0.hu h2 he, by show 0 < u1 / 2; omega, by show u1 / 2 ≤ u; omega⟩ (by show u1 / 2 < u1; omega) ?_⟩
          simp only [bnC, Kseq_app, Nat.reduceMul, Nat.reduceLeDiff, Nat.reduceEqDiff, Nat.reduceLT, Nat.reduceAdd, Nat.reduceSub, ↓reduceIte, implies_true, reduceCtorEq, ne_eq, ↓shr_eq, IntKind.bits, Int.reduceToNat, Int.reducePow, dite_eq_ite, Value.oneCell', Nat.reduceBEq, Nat.reduceDiv, bnS, bnN, bnT, spB, vl_dg, W32_dg, unW_wds, wV, sdf, wds_nil]
        · refine LoopC.intro (α := Nat × Nat) (fun y => EuI a m u1 y.1 p1 y.2 ∧ y.1 ≤ v) (fun y => ⟨[(1, wV (dg m)), (6, wV (dg u1)), (7, wV (dg y.1)), (8, wV (dg p1)), (9, wV (dg y.2))], [], 2⟩) (fun y => y.1) (v, q) ⟨g0, Nat.le_refl _⟩ ?_ ?_
          · simp only [bnC, Kseq_app, Nat.reduceMul, Nat.reduceLeDiff, Nat.reduceEqDiff, Nat.reduceLT, Nat.reduceAdd, Nat.reduceSub, ↓reduceIte, implies_true, reduceCtorEq, ne_eq, ↓shr_eq, IntKind.bits, Int.reduceToNat, Int.reducePow, dite_eq_ite, Value.oneCell', Nat.reduceBEq, Nat.reduceDiv, bnS, bnN, bnT, spB, vl_dg, W32_dg, unW_wds, wV, sdf, wds_nil]
          · rintro ⟨v1, q1⟩ ⟨k0, k2⟩
            have k0 : EuI a m u1 v1 p1 q1 := k0
            have k1 := k0.v0
            have k2 : v1 ≤ v := k2
            have b4 := hle _ k0.vm
            have b5 := hle _ (Nat.le_of_lt k0.qm)
            simp only [bnC, Kseq_app, Nat.reduceMul, Nat.reduceLeDiff, Nat.reduceEqDiff, Nat.reduceLT, Nat.reduceAdd, Nat.reduceSub, ↓reduceIte, implies_true, reduceCtorEq, ne_eq, ↓shr_eq, IntKind.bits, Int.reduceToNat, Int.reducePow, dite_eq_ite, Value.oneCell', Nat.reduceBEq, Nat.reduceDiv, bnS, bnN, bnT, spB, vl_dg, W32_dg, unW_wds, wV, sdf, wds_nil, SGm4, SGm4f, SGm3f, SGwf, SGm2f, SGm1f, unL, unW_lit, tb_zero]
            refine ⟨by constructor <;> omega, fun hb => ?_, fun hb => ⟨by omega, by omega, fun hc => ?_, fun hc => ?_⟩⟩
            · have he : v1 % 2 = 0 := by simp at hb; omega
              refine ⟨by omega, by omega, by omega, by omega, by omega, Again.intro (v1 / 2, halfM q1 m) ⟨k0.hv h2 he, by show v1 / 2 ≤ v; omega⟩ (by show v1 / 2 < v1; omega) ?_⟩
              simp only [bnC, Kseq_app, Nat.reduceMul, Nat.reduceLeDiff, Nat.reduceEqDiff, Nat.reduceLT, Nat.reduceAdd, Nat.reduceSub, ↓reduceIte, implies_true, reduceCtorEq, ne_eq, ↓shr_eq, IntKind.bits, Int.reduceToNat, Int.reducePow, dite_eq_ite, Value.oneCell', Nat.reduceBEq, Nat.reduceDiv, bnS, bnN, bnT, spB, vl_dg, W32_dg, unW_wds, wV, sdf, wds_nil]
            · have hc : v1 ≤ u1 := by
                rcases Nat.lt_or_ge u1 v1 with h | h
                · rw [cmp3_lt h] at hc; simp at hc
                · exact h
              refine ⟨by omega, by omega, by omega, by omega, by omega, k0.pm, k0.qm, Again.intro (u1 - v1, v1, subM p1 q1 m, q1) (k0.su hc) (by show u1 - v1 + v1 < u + v; omega) ?_⟩
              simp only [bnC, Kseq_app, Nat.reduceMul, Nat.reduceLeDiff, Nat.reduceEqDiff, Nat.reduceLT, Nat.reduceAdd, Nat.reduceSub, ↓reduceIte, implies_true, reduceCtorEq, ne_eq, ↓shr_eq, IntKind.bits, Int.reduceToNat, Int.reducePow, dite_eq_ite, Value.oneCell', Nat.reduceBEq, Nat.reduceDiv, bnS, bnN, bnT, spB, vl_dg, W32_dg, unW_wds, wV, sdf, wds_nil]
            · have hc : u1 < v1 := by
                rcases Nat.lt_or_ge u1 v1 with h | h
                · exact h
                · rcases Nat.eq_or_lt_of_le h with h | h
                  · rw [h, cmp3_eq] at hc; simp at hc
                  · rw [cmp3_gt h] at hc; simp at hc
              refine ⟨by omega, by omega, by omega, by omega, by omega, k0.qm, k0.pm, Again.intro (u1, v1 - u1, p1, subM q1 p1 m) (k0.sv hc) (by show u1 + (v1 - u1) < u + v; omega) ?_⟩
              simp only [bnC, Kseq_app, Nat.reduceMul, Nat.reduceLeDiff, Nat.reduceEqDiff, Nat.reduceLT, Nat.reduceAdd, Nat.reduceSub, ↓reduceIte, implies_true, reduceCtorEq, ne_eq, ↓shr_eq, IntKind.bits, Int.reduceToNat, Int.reducePow, dite_eq_ite, Value.oneCell', Nat.reduceBEq, Nat.reduceDiv, bnS, bnN, bnT, spB, vl_dg, W32_dg, unW_wds, wV, sdf, wds_nil]
    · have hu0 : u = 0 := by
        rcases Nat.eq_zero_or_pos u with h | h
        · exact h
        · have := bl_pos (show u ≠ 0 by omega)
          simp at hb; omega
      subst hu0
      obtain ⟨rfl, rfl⟩ := h0.fin hx hxa hm
      exact ⟨rfl, rfl⟩
section
variable {P : Program} {x x0 x1 : Fx} {F : Cx} {w w' : World} {a : Act} {s : S}
/-- x' stands within x: what x' allows, x allows. -/
structure Root (x x' : Fx) : Prop where
  j : x'.J = x.J
  n : x'.n = x.n
  ev : Ev x.X x.w x'.w
  X : ∀ b, x'.X b → x.w.heap.size ≤ b ∨ x.X b
  F : ∀ b, x.F b → x'.F b
  le : Cx.Le x.w x.C x'.C
theorem Root.refl (x : Fx) : Root x x := ⟨rfl, rfl, Ev.refl _ _, fun _ h => .inr h, fun _ h => h, Cx.Le.refl _ _⟩
theorem Root.evs {X : Nat → Prop} {w2 : World} (r : Root x x1) (hX : ∀ b, X b → x1.w.heap.size ≤ b ∨ x1.X b) (h : Ev X x1.w w2) : Ev x.X x.w w2 :=
  ⟨h.os.trans r.ev.os, h.tape.trans r.ev.tape, h.output.trans r.ev.output, Nat.le_trans r.ev.size h.size, fun b hb hx => (h.block b (Nat.lt_of_lt_of_le hb r.ev.size) fun hx' => by
    rcases hX b hx' with h | h
    · have := r.ev.size; omega
    · rcases r.X b h with h | h
      · omega
      · exact hx h).trans (r.ev.block b hb hx)⟩
theorem Root.sat (r : Root x x1) (h : Sat x1 s F a w) : Sat x s F a w where
  ev := r.evs (fun _ h => .inr h) h.ev
  env := h.env
  df := h.df
  sz := h.sz.trans r.n
  fold := fun b hb => h.fold b (r.F b hb)
  flt := h.flt
  nx := h.nx
  own := h.own
  own2 := fun k ob g hk hg => by
    rcases h.own2 k ob g hk hg with h | h
    · exact .inl (Nat.le_trans r.ev.size h)
    · exact r.X g h
  own3 := fun k ob g hk hg hx => h.own3 k ob g hk hg (r.F g hx)
  sep := h.sep
  wsl := h.wsl
  le := r.le.trans h.le r.ev.size
  inv := r.j ▸ h.inv
/-- From here on: what is one's own here may be written, no more. -/
def Fx.at (x : Fx) (h : List (Nat × Ob)) (F : Cx) (w : World) : Fx := ⟨x.J, w, fun b => F.F b ∧ ¬ Blk F h b, x.n, Blk F h, F⟩
theorem Sat.root (r : Root x0 x) (hs : Sat x s F a w) : Root x0 (x.at s.h F w) ∧ Sat (x.at s.h F w) s F a w := by
  have h0 := r.sat hs
  refine ⟨⟨r.j, r.n, h0.ev, fun b ⟨k, ob, hk, hb⟩ => h0.own2 k ob b hk hb, fun b hb => ⟨h0.fold b hb, fun ⟨k, ob, hk, hg⟩ => h0.own3 k ob b hk hg hb⟩, h0.le⟩, ?_⟩
  exact ⟨Ev.refl _ _, hs.env, hs.df, hs.sz, fun b hb => hb.1, hs.flt, hs.nx, hs.own, fun k ob g hk hg => .inr ⟨k, ob, hk, hg⟩, fun k ob g hk hg hF => hF.2 ⟨k, ob, hk, hg⟩, hs.sep, hs.wsl, Cx.Le.refl _ _, hs.inv⟩
/-- A walk's piece, by the generator: what is not one's own there is as it was. -/
theorem piece {G : Sig} {c : Code} {K : Ko} {Q : Exit → Act → World → Prop} (r : Root x0 x) (hs : Sat x s F a w) (hG : SigOk P G) (hJ : x.J = G.J) (hb : G.b = s.nx) (hm : P.follows .mixedOrders = true) (ho : okC x.n c = true) (hv : vg P G c s K)
    (hK : ∀ x1, Root x0 x1 → x1.J = x.J → x1.n = x.n → x1.w = w → x1.X = Blk F s.h → x1.C = F → (∀ b, F.F b → ¬ Blk F s.h b → x1.F b) → KOk x1 K Q) : c.wp P Q a w := by
  obtain ⟨r1, h1⟩ := hs.root r
  exact vg_ok (x := x.at s.h F w) hG hJ (fun m hm' => hs.nx m (by omega)) hm c s K Q F a w ho hv (hK _ r1 rfl rfl rfl rfl rfl fun b h2 h3 => ⟨h2, h3⟩) h1
abbrev fx0 (J : Inv) (w : World) (F : Cx) (pre : List (Nat × Ob)) (n : Nat) : Fx := ⟨J, w, fun b => F.F b ∧ ¬ Blk F pre b, n, Blk F pre, F⟩
/-- A contract of a function whose walk is put together by hand. -/
theorem fnH_wp {J : Inv} {f : FuncId} {fn : Func} {c : Code} {args : List V} {pre post : List (Nat × Ob)} {nx nx' : Nat} {res : V} (hf : P.funcs[f]? = some fn) (hb : fn.body = some c) (hname : (fn.name == "runtime.NumGoroutine") = false) (hn : args.length ≤ fn.ntmps)
    (h : ∀ (w : World) (F : Cx) (a : Act) (Q : Exit → Act → World → Prop), Mem J pre nx F w → Sat (fx0 J w F pre fn.ntmps) ⟨enOf 0 args, pre, nx⟩ F a w → KOk (fx0 J w F pre fn.ntmps) ⟨RetH fn.results.toList res post nx', RetH fn.results.toList res post nx', []⟩ Q → c.wp P Q a w) : FnH P J f args pre nx res post nx' := by
  refine ⟨⟨fn, hf, by simp [hb], hname⟩, fun w F vs hM hlen hvs => ?_⟩
  refine calls_of_wp hf hb ?_
  have fin : ∀ (s : S) (F' : Cx) (a : Act) (w' : World), RetH fn.results.toList res post nx' s → Sat (fx0 J w F pre fn.ntmps) s F' a w' →
      a.defers = [] ∧ ∃ v, (results fn a.tmps).run P w' = .ok v w' ∧ ∃ v' G1, Ending.returned v = .returned v' ∧ Ev (Blk F pre) w w' ∧ Cx.Le w F G1 ∧ (∀ b, F.F b → ¬ Blk F pre b → G1.F b) ∧ Mem J post nx' G1 w' ∧ (∀ k ob g, Hget post k = some ob → G1.blk k ob = some g → Blk F pre g ∨ w.heap.size ≤ g) ∧ Rep w' G1 res v' := fun s F' a w' h hs => by
    obtain ⟨s', G', v, hs', hB, hrun, hv⟩ := RetK_ok (P := P) h hs
    refine ⟨hs.df, v, hrun, v, G', rfl, hs'.ev, hs'.le, fun b h1 h2 => hs'.fold b ⟨h1, h2⟩, ⟨hs'.flt, fun k hk => hs'.nx k (Nat.le_trans hB.2 hk), fun m o ho => hs'.own m o (subH_get hB.1 m o ho), fun m m' o o' g ho ho' => hs'.sep m m' o o' g (subH_get hB.1 m o ho) (subH_get hB.1 m' o' ho'), hs'.wsl, hs'.inv⟩, fun k ob g hk hg => (hs'.own2 k ob g (subH_get hB.1 k ob hk) hg).symm, hv⟩
  refine h w F _ _ hM ?_ ⟨fun s F' a w' h hs => fin s F' a w' h hs, fun s F' a w' h hs => fin s F' a w' h hs, fun id k hk => by simp [exGet] at hk⟩
  refine ⟨Ev.refl _ w, fun t v ht => ?_, rfl, by simp; omega, fun b hb => hb.1, hM.flt, hM.nx, hM.own, fun k ob g hk hg => .inr ⟨k, ob, hk, hg⟩, fun k ob g hk hg hF => hF.2 ⟨k, ob, hk, hg⟩, hM.sep, hM.wsl, Cx.Le.refl w _, hM.inv⟩
  obtain ⟨_, h1⟩ := enOf_get args 0 t v ht
  simp only [Nat.sub_zero] at h1
  have hlt : t < args.length := (List.getElem?_eq_some_iff.1 h1).1
  have hlt' : t < vs.length := by omega
  refine ⟨by simp; omega, ?_⟩
  have hg : vs[t]? = some vs[t] := List.getElem?_eq_getElem hlt'
  have := hvs t v _ h1 hg
  simpa [Array.getD_eq_getD_getElem?, Array.getElem?_append, hlt'] using this
theorem dsts_of {n : Nat} {l : List Oper} (h : (l.all fun o => match o.dst with | some d => decide (d < n) | none => true) = true) : dstsOk n l := by
  intro o hoo d hd
  have := List.all_eq_true.1 h o hoo
  rw [hd] at this
  simpa using this
theorem Sat.slot (hs : Sat x s F a w) {t : Nat} {v v' : V} (ht : s.e.get t = some v) (hr : ∀ y, Rep w F v y → Rep w F v' y) : Sat x ⟨(t, v') :: s.e, s.h, s.nx⟩ F a w := by
  refine ⟨hs.ev, fun t' u hu => ?_, hs.df, hs.sz, hs.fold, hs.flt, hs.nx, hs.own, hs.own2, hs.own3, hs.sep, hs.wsl, hs.le, hs.inv⟩
  simp only [En.get] at hu
  split at hu
  · rename_i e; subst e
    obtain rfl := Option.some.inj hu
    obtain ⟨h1, h2⟩ := hs.env _ _ ht
    exact ⟨h1, hr _ h2⟩
  · exact hs.env _ _ hu
/-- A statement by the generator, then the rest by hand. -/
theorem wp_pc {G : Sig} {c d : Code} {R Kr : S → Prop} {ex : List (Nat × (S → Prop))} {Q : Exit → Act → World → Prop} (hG : SigOk P G) (hJ : x.J = G.J) (hb : ∀ m : Nm, G.b ≤ m.root → x.C.O m = none ∧ x.C.W m = none) (hm : P.follows .mixedOrders = true) (ho : okC x.n c = true)
    (hv : vg P G c s ⟨R, Kr, ex⟩) (hs : Sat x s F a w) (hR : ∀ s F a w, R s → Sat x s F a w → d.wp P Q a w) (hKr : ∀ s F a w, Kr s → Sat x s F a w → Q .ret a w) (hex : ∀ id k, exGet ex id = some k → ∀ s F a w, k s → Sat x s F a w → Q (.exit id) a w) : (Code.seq c d).wp P Q a w :=
  wp_seq (vg_ok hG hJ hb hm c s _ _ F a w ho hv ⟨hR, hKr, hex⟩ hs)
end
theorem odd0_fn (J : Inv) (m : Nat) : Fn Tryz.prog J 121 false [wV (dg 0), wV (dg m)] (.tu [wV (dg m), wV (dg 0)]) := by
  refine fn_intro Tryz.func121 rfl (by kernel_rfl) (Nat.le_of_ble_eq_true (by kernel_rfl)) (by kernel_rfl) (by kernel_rfl) (by simp [V.cl, clL, wV, wds_cl, V.i]) (SGm4_ok J) ?_
  unfold Tryz.f121
  simp only [bnC, Kseq_app, Nat.reduceMul, Nat.reduceLeDiff, Nat.reduceEqDiff, Nat.reduceLT, Nat.reduceAdd, Nat.reduceSub, ↓reduceIte, implies_true, reduceCtorEq, ne_eq, ↓shr_eq, IntKind.bits, Int.reduceToNat, Int.reducePow, dite_eq_ite, Value.oneCell', Nat.reduceBEq, Nat.reduceDiv, bnS, bnN, bnT, spB, vl_dg, W32_dg, unW_wds, wV, sdf, wds_nil, SGm4, SGm4f, SGm3f, SGwf, SGm2f, SGm1f, unL, unW_lit]
  refine LoopC.introA (α := Unit) (fun _ => True) (fun _ => ⟨[(1, wV (dg m)), (6, wV (dg 0)), (7, wV (dg m)), (8, wV (dg 1)), (9, wV (dg 0))], [], 2⟩) (fun _ => 0) () [.fzs 0, .fzs 1] trivial ?_ ?_
  · simp only [bnC, Kseq_app, Nat.reduceMul, Nat.reduceLeDiff, Nat.reduceEqDiff, Nat.reduceLT, Nat.reduceAdd, Nat.reduceSub, ↓reduceIte, implies_true, reduceCtorEq, ne_eq, ↓shr_eq, IntKind.bits, Int.reduceToNat, Int.reducePow, dite_eq_ite, Value.oneCell', Nat.reduceBEq, Nat.reduceDiv, bnS, bnN, bnT, spB, vl_dg, W32_dg, unW_wds, wV, sdf, wds_nil, dg_one, dg_zero]
    rfl
  · rintro ⟨⟩ _
    simp only [bnC, Kseq_app, Nat.reduceMul, Nat.reduceLeDiff, Nat.reduceEqDiff, Nat.reduceLT, Nat.reduceAdd, Nat.reduceSub, ↓reduceIte, implies_true, reduceCtorEq, ne_eq, ↓shr_eq, IntKind.bits, Int.reduceToNat, Int.reducePow, dite_eq_ite, Value.oneCell', Nat.reduceBEq, Nat.reduceDiv, bnS, bnN, bnT, spB, vl_dg, W32_dg, unW_wds, wV, sdf, wds_nil, SGm4, SGm4f, SGm3f, SGwf, SGm2f, SGm1f, unL, unW_lit, bl_zero]
    refine ⟨by rw [dg_zero]; exact Nat.zero_le _, fun h => absurd h (by simp), fun _ => trivial⟩
/-- The halving loop's contract at one pair of numbers. -/
def SGof (a m g x : Nat) : FuncId → List V → Option (List Prop × Bool × V) := fun f args =>
  if f = 121 then match args with
    | [.sq 1 da La, .sq 1 dm Lm] => some ([da = .val (.int .u32 0), La = wds (dg a), dm = .val (.int .u32 0), Lm = wds (dg m)], false, .tu [wV (dg g), wV (dg x)])
    | _ => none
  else SGm4f f args
def SGo (J : Inv) (a m g x : Nat) : Sig := ⟨J, sdf, SGof a m g x, noH, 0⟩
theorem SGo_ok (J : Inv) (a m g x : Nat) (ho : Fn Tryz.prog J 121 false [wV (dg a), wV (dg m)] (.tu [wV (dg g), wV (dg x)])) : SigOk Tryz.prog (SGo J a m g x) := by
  refine .plain fun f args l fr r h hl => ?_
  change SGof a m g x f args = some (l, fr, r) at h
  unfold SGof at h
  split at h
  · rename_i hf; subst hf
    split at h
    · obtain ⟨rfl, rfl, rfl⟩ := jsome_tri h
      rename_i da La dm Lm
      have q1 : da = .val (.int .u32 0) := hl _ (by simp)
      have q2 : La = wds (dg a) := hl _ (by simp)
      have q3 : dm = .val (.int .u32 0) := hl _ (by simp)
      have q4 : Lm = wds (dg m) := hl _ (by simp)
      subst q1 q2 q3 q4
      exact ho
    · exact absurd h (by simp)
  · exact (SGm4_ok J).1 f args l fr r h hl
def iL : Code → Code | .seq a _ => a | c => c
def iR : Code → Code | .seq _ b => b | c => c
def iS : Code → Code | .scope c => c | c => c
def iC : Code → Code | .cond _ a _ => a | c => c
noncomputable def vA : Code := (Tryz.f101).body.getD .skip
noncomputable def vB : Code := iS (iR vA)
noncomputable def vP : Code := .seq (iL vA) (.seq (iL vB) (.seq (iL (iR vB)) (.seq (iL (iR (iR vB))) (iL (iL (iR (iR (iR vB))))))))
noncomputable def vX : Code := iL (iC (iR (iL (iR (iR (iR vB))))))
noncomputable def vT : Code := iR (iR (iR (iR vB)))
noncomputable def vD : Code := iR (iR vT)
theorem vA_eq : (Tryz.f101).body = some (.seq (iL vA) (.scope (.seq (iL vB) (.seq (iL (iR vB)) (.seq (iL (iR (iR vB))) (.seq (.seq (iL (iL (iR (iR (iR vB))))) (.cond (.tmp 20) (.seq vX (.goto 0)) .skip)) vT)))))) := by kernel_rfl
theorem vT_eq : findLabel (.seq (iL vB) (.seq (iL (iR vB)) (.seq (iL (iR (iR vB))) (.seq (.seq (iL (iL (iR (iR (iR vB))))) (.cond (.tmp 20) (.seq vX (.goto 0)) .skip)) vT)))) 0 = some (.seq .skip vD) := by kernel_rfl
theorem inv_gen (J : Inv) (a : List Nat) (m g x : Nat) (h : Mods [a, dg m]) (h2 : m % 2 = 1) (hg : g ≤ m) (hx : x < m) (ho : Fn Tryz.prog J 121 false [wV (dg (vl a % m)), wV (dg m)] (.tu [wV (dg g), wV (dg x)])) (n e : Nat)
    (hn : n = if g = 1 then x else 0) (he : e = if g = 1 then 0 else 61) : Fn Tryz.prog J 101 false [wV a, wV (dg m)] (.tu [wV (dg n), .i e]) := by
  obtain ⟨⟨a1, a2, a3⟩, ⟨m1, m2, m3⟩, m4⟩ := h.two
  rw [vl_dg] at m3 m4
  refine Fn.of_plain (nx := 10) (post := []) (fnH_wp Tryz.func101 vA_eq (by kernel_rfl) (Nat.le_of_ble_eq_true (by kernel_rfl)) fun w F ac Q hM hs hK => ?_) (by simp [V.cl, clL, wV, wds_cl, V.i])
  have hG := SGo_ok J (vl a % m) m g x ho
  have hb : ∀ m : Nm, 0 ≤ m.root → (fx0 J w F [] (Tryz.f101).ntmps).C.O m = none ∧ (fx0 J w F [] (Tryz.f101).ntmps).C.W m = none := fun m hm => hM.nx m hm
  have hm : Tryz.prog.follows .mixedOrders = true := rfl
  have hgm : (dg g).length ≤ 1024 := Nat.le_trans (dg_mono hg) (by omega)
  have hxm : (dg x).length ≤ 1024 := Nat.le_trans (dg_mono (Nat.le_of_lt hx)) (by omega)
  have htail : ∀ ex s, s.e.get 6 = some (wV (dg g)) → s.e.get 7 = some (wV (dg x)) → s.e.get 1 = some (wV (dg m)) → s.nx ≤ 3 → vg Tryz.prog (SGo J (vl a % m) m g x) vD s ⟨fun _ => False, RetH (Tryz.f101).results.toList (.tu [wV (dg n), .i e]) [] 10, ex⟩ := by
    intro ex s e6 e7 e1 hnx
    obtain ⟨E, H, nx⟩ := s
    simp only at e6 e7 e1 hnx
    simp only [vD, vT, vB, vA, iR, iL, iS, iC, Tryz.f101, Option.getD_some]
    simp only [bnC, Kseq_app, Nat.reduceMul, Nat.reduceLeDiff, Nat.reduceEqDiff, Nat.reduceLT, Nat.reduceAdd, Nat.reduceSub, ↓reduceIte, implies_true, reduceCtorEq, ne_eq, ↓shr_eq, IntKind.bits, Int.reduceToNat, Int.reducePow, dite_eq_ite, Value.oneCell', Nat.reduceBEq, Nat.reduceDiv, bnS, bnN, bnT, spB, vl_dg, W32_dg, unW_wds, wV, sdf, wds_nil, SGo, SGof, SGm4f, SGm3f, SGwf, SGm2f, SGm1f, unL, unW_lit, e6, e7, e1]
    refine ⟨rfl, by omega, W32.one (by omega), fun hc => ?_, fun hc => ?_⟩
    · have hg1 : g ≠ 1 := by rintro rfl; rw [vl_one, cmp3_eq] at hc; simp at hc
      rw [hn, he, if_neg hg1, if_neg hg1, dg_zero]
      exact ⟨rfl, rfl, by omega⟩
    · have hg1 : g = 1 := by
        rw [vl_one] at hc
        rcases Nat.lt_trichotomy g 1 with h | h | h
        · rw [cmp3_lt h] at hc; simp at hc
        · exact h
        · rw [cmp3_gt h] at hc; simp at hc
      rw [hn, he, if_pos hg1, if_pos hg1, Nat.mod_eq_of_lt hx]
      exact ⟨by omega, by omega, by omega, rfl, rfl, by omega⟩
  have hpre : vg Tryz.prog (SGo J (vl a % m) m g x) vP ⟨enOf 0 [wV a, wV (dg m)], [], 0⟩ ⟨fun s => s.e.get 20 = some (.bb true) ∧ vg Tryz.prog (SGo J (vl a % m) m g x) vX s ⟨fun s => s.e.get 6 = some (wV (dg g)) ∧ s.e.get 7 = some (wV (dg x)) ∧ s.e.get 1 = some (wV (dg m)) ∧ s.nx ≤ 3, fun _ => False, []⟩, fun _ => False, []⟩ := by
    simp only [vP, vX, vB, vA, iR, iL, iS, iC, Tryz.f101, Option.getD_some]
    simp only [bnC, Kseq_app, Nat.reduceMul, Nat.reduceLeDiff, Nat.reduceEqDiff, Nat.reduceLT, Nat.reduceAdd, Nat.reduceSub, ↓reduceIte, implies_true, reduceCtorEq, ne_eq, ↓shr_eq, IntKind.bits, Int.reduceToNat, Int.reducePow, dite_eq_ite, Value.oneCell', Nat.reduceBEq, Nat.reduceDiv, bnS, bnN, bnT, spB, vl_dg, W32_dg, unW_wds, wV, sdf, wds_nil, SGo, SGof, SGm4f, SGm3f, SGwf, SGm2f, SGm1f, unL, unW_lit, tb_zero]
    exact ⟨h, fun h => absurd h (by simp), fun _ => ⟨a1, m1, a2, by omega, by constructor <;> omega, by rw [h2]; simp⟩⟩
  let X0 := fx0 J w F [] (Tryz.f101).ntmps
  refine wp_pc (c := iL vA) (x := X0) hG rfl hb hm (by kernel_rfl) hpre hs (fun s F a w hR hs => ?_) (fun _ _ _ _ h _ => h.elim) (fun id k hk => by simp [exGet] at hk)
  refine wp_scope_jumps 0 (fun a w => ∃ s F, s.e.get 6 = some (wV (dg g)) ∧ s.e.get 7 = some (wV (dg x)) ∧ s.e.get 1 = some (wV (dg m)) ∧ s.nx ≤ 3 ∧ Sat X0 s F a w) (fun _ _ => 0) vT_eq ?_ ?_
  · refine wp_pc (c := iL vB) hG rfl hb hm (by kernel_rfl) hR hs (fun s F a w hR hs => ?_) (fun _ _ _ _ h _ => h.elim) (fun id k hk => by simp [exGet] at hk)
    refine wp_pc (c := iL (iR vB)) hG rfl hb hm (by kernel_rfl) hR hs (fun s F a w hR hs => ?_) (fun _ _ _ _ h _ => h.elim) (fun id k hk => by simp [exGet] at hk)
    refine wp_pc (c := iL (iR (iR vB))) hG rfl hb hm (by kernel_rfl) hR hs (fun s F a w hR hs => ?_) (fun _ _ _ _ h _ => h.elim) (fun id k hk => by simp [exGet] at hk)
    refine wp_seq (wp_pc (c := iL (iL (iR (iR (iR vB))))) hG rfl hb hm (by kernel_rfl) hR hs (fun s F a w hR hs => ?_) (fun _ _ _ _ h _ => h.elim) (fun id k hk => by simp [exGet] at hk))
    refine wp_cond_true (rep_bb (hs.env 20 _ hR.1).2) ?_
    refine wp_pc (c := vX) hG rfl hb hm (by kernel_rfl) hR.2 hs (fun s F a w hR hs => ?_) (fun _ _ _ _ h _ => h.elim) (fun id k hk => by simp [exGet] at hk)
    exact wp_goto ⟨rfl, s, F, hR.1, hR.2.1, hR.2.2.1, hR.2.2.2, hs⟩
  · rintro a w ⟨s, F, h6, h7, h1, h3, hs⟩
    exact wp_seq (wp_skip (vg_ok hG rfl hb hm vD s _ _ F a w (by kernel_rfl) (htail [] s h6 h7 h1 h3) ⟨fun _ _ _ _ h _ => h.elim, fun s F a w h hs => hK.ret s F a w h hs, fun id k hk => by simp [exGet] at hk⟩ hs))
end Go.Proofs.YtmpklnhmempmgaaGreatDoor
