/- Ed25519: the number of bytes; the x of a y. Ed25519: the point of 32 bytes. -/
import Derived.Test.YtmpklnhmempmgaaGreatDoorQ27
namespace Go.Proofs.YtmpklnhmempmgaaGreatDoor
open Go.RowKit
set_option linter.unusedSimpArgs false
set_option maxRecDepth 100000
/-- The number of bytes, the lowest first. -/
def leN (b : List UInt8) : Nat := nb b.reverse
theorem leN_lt (b : List UInt8) : leN b < 256 ^ b.length := by have := nb_lt b.reverse; rwa [List.length_reverse] at this
def SGn0f : FuncId → List V → Option (List Prop × Bool × V) := fun f args =>
  if f = 24 then match args with
    | [.by b] => some ([b.length ≤ 67108864], false, wV (dg (nb b)))
    | _ => none
  else none
def SGn0 (J : Inv) : Sig := ⟨J, sdf, SGn0f, noH, 0⟩
theorem SGn0_ok (J : Inv) : SigOk Tryz.prog (SGn0 J) := by
  refine .plain fun f args l fr r h hl => ?_
  change SGn0f f args = some (l, fr, r) at h
  unfold SGn0f at h
  split at h
  · rename_i hf; subst hf
    split at h
    · rename_i b
      obtain ⟨rfl, rfl, rfl⟩ := jsome_tri h
      obtain ⟨c0, -⟩ := hl.un
      have hp := fromBytes_fn J b c0
      exact hp
    · exact absurd h (by simp)
  · exact absurd h (by simp)
def SGnh : FuncId → List V → List (Nat × Ob) → Nat → Option CallH := fun f args h nx =>
  if f = 29 then match args with
    | [.by b] => some ⟨[0 < b.length, b.length ≤ 67108864], [false], [], .ro (.r (nx + 1)), [(nx + 1, .row 5 (.by b))], nx + 2⟩
    | _ => none
  else if f = 66 then match args with
    | [.ro (.r k)] => match Hroot h k with
      | some (.row ty (.by l)) => some ⟨[ty = 5, l.length ≤ 67108864], [false], [(k, .row 5 (.by l))], .tu [], [(k, .row 5 (.by l.reverse))], nx⟩
      | _ => none
    | _ => none
  else none
theorem SGnh_ok (J : Inv) (f : FuncId) (args : List V) (h : List (Nat × Ob)) (nx : Nat) (c : CallH) (hc : SGnh f args h nx = some c) (hl : AllP c.l) : FnH Tryz.prog J f (mixA h c.bw args).1 c.pre nx c.res c.post c.nx := by
  unfold SGnh at hc
  split at hc
  · rename_i hf; subst hf
    split at hc
    · rename_i b
      obtain rfl := Option.some.inj hc
      have q1 : 0 < b.length := hl _ (by simp)
      have q2 : b.length ≤ 67108864 := hl _ (by simp)
      exact clone_fn J nx b q1 (by omega)
    · exact absurd hc (by simp)
  · split at hc
    · rename_i hf; subst hf
      split at hc
      · rename_i k
        split at hc
        · rename_i ty l hk
          obtain rfl := Option.some.inj hc
          have q1 : ty = 5 := hl _ (by simp)
          have q2 : l.length ≤ 67108864 := hl _ (by simp)
          exact reverse_fn J k nx l (by omega)
        · exact absurd hc (by simp)
      · exact absurd hc (by simp)
    · exact absurd hc (by simp)
def SGn (J : Inv) : Sig := ⟨J, sdf, SGn0f, SGnh, 0⟩
theorem SGn_ok (J : Inv) : SigOk Tryz.prog (SGn J) := ⟨(SGn0_ok J).1, SGnh_ok J⟩
theorem number_fn (J : Inv) (b : List UInt8) (h0 : 0 < b.length) (h1 : b.length ≤ 67108864) : Fn Tryz.prog J 30 false [.by b] (wV (dg (leN b))) := by
  refine fn_intro Tryz.func30 rfl (by kernel_rfl) (Nat.le_of_ble_eq_true (by kernel_rfl)) (by kernel_rfl) (by kernel_rfl) (wV_cl _) (SGn_ok J) ?_
  unfold Tryz.f30
  simp only [↓Br_t, ↓Br_f, ↓Brg_t, ↓Brg_f, bnC, Kseq_app, Nat.reduceMul, Nat.reduceLeDiff, Nat.reduceEqDiff, Nat.reduceLT, Nat.reduceAdd, Nat.reduceSub, ↓reduceIte, implies_true, reduceCtorEq, ne_eq, ↓shr_eq, IntKind.bits, Int.reduceToNat, Int.reducePow, dite_eq_ite, Value.oneCell', Nat.reduceBEq, Nat.reduceDiv, bnS, bnN, bnT, spB, vl_dg, W32_dg, unW_wds, wV, sdf, wds_nil, SGn, SGn0f, SGnh, List.length_reverse, leN]
  exact ⟨h0, h1, h1, h1⟩
def edXX (y : Nat) : Nat := mulP (subP (mulP y y) 1) (invP (addP (mulP curveN (mulP y y)) 1))
def edX0 (y : Nat) : Nat := powP (edXX y) ((p25519 + 3) / 2 ^ 3)
def edX1 (y : Nat) : Nat := if mulP (edX0 y) (edX0 y) = edXX y then edX0 y else mulP (edX0 y) rootN
def edBad (y : Nat) (odd : Bool) : Bool := !decide (mulP (edX1 y) (edX1 y) = edXX y) || (decide (edX1 y = 0) && odd)
def edX2 (y : Nat) (odd : Bool) : Nat := if (edX1 y % 2 == 1) = odd then edX1 y else subP 0 (edX1 y)
theorem unW_one (k : IntKind) (n : Int) : unW [.val (.int k n)] = [n.toNat] := rfl
/-- nil in the place of no words. -/
theorem Fn.nil1 {P : Program} {J : Inv} {f : FuncId} {fr : Bool} {r : List V} {res : V} (h : Fn P J f fr (wV [] :: r) res) : Fn P J f fr (.val (.slice none 0 0) :: r) res := by
  refine ⟨h.1, fun w F vs hI hF hlen hvs => h.2 w F vs hI hF hlen fun i v x h1 h2 => ?_⟩
  match i with
  | i + 1 => exact hvs (i + 1) v x h1 h2
  | 0 =>
    obtain rfl : wV [] = v := by simpa using h1
    obtain rfl := rep_val (hvs 0 _ x rfl h2)
    exact rep_empty 1 _ (by omega)
def SGe2af : FuncId → List V → Option (List Prop × Bool × V) := fun f args =>
  if f = 32 then match args with
    | [] => some ([], false, wV (dg p25519))
    | _ => none
  else if f = 72 then match args with
    | [] => some ([], false, wV (dg curveN))
    | _ => none
  else if f = 76 then match args with
    | [] => some ([], false, wV (dg rootN))
    | _ => none
  else if f = 71 then match args with
    | [.sq 1 da La, .sq 1 db Lb] => some ([da = .val (.int .u32 0), La = wds (unW La), db = .val (.int .u32 0), Lb = wds (unW Lb), Sm (unW La), Sm (unW Lb)], false, wV (dg (addP (vl (unW La)) (vl (unW Lb)))))
    | _ => none
  else if f = 68 then match args with
    | [.sq 1 da La, .sq 1 db Lb] => some ([da = .val (.int .u32 0), La = wds (unW La), db = .val (.int .u32 0), Lb = wds (unW Lb), Sm (unW La), Sm (unW Lb)], false, wV (dg (mulP (vl (unW La)) (vl (unW Lb)))))
    | _ => none
  else if f = 73 then match args with
    | [.sq 1 da La, .sq 1 db Lb] => some ([da = .val (.int .u32 0), La = wds (unW La), db = .val (.int .u32 0), Lb = wds (unW Lb), Sm (unW La), Sm (unW Lb)], false, wV (dg (powP (vl (unW La)) (vl (unW Lb)))))
    | _ => none
  else if f = 70 then match args with
    | [.sq 1 da La] => some ([da = .val (.int .u32 0), La = wds (unW La), Sm (unW La)], false, wV (dg (invP (vl (unW La)))))
    | _ => none
  else none
def SGe2a (J : Inv) : Sig := ⟨J, sdf, SGe2af, noH, 0⟩
theorem SGe2a_ok (J : Inv) (hJ : EdT J) : SigOk Tryz.prog (SGe2a J) := by
  refine .plain fun f args l fr r h hl => ?_
  change SGe2af f args = some (l, fr, r) at h
  unfold SGe2af at h
  split at h
  · rename_i hf; subst hf
    split at h
    · obtain ⟨rfl, rfl, rfl⟩ := jsome_tri h
      have hp := prime_fn J hJ
      exact hp
    · exact absurd h (by simp)
  · split at h
    · rename_i hf; subst hf
      split at h
      · obtain ⟨rfl, rfl, rfl⟩ := jsome_tri h
        have hp := curve_fn J hJ
        exact hp
      · exact absurd h (by simp)
    · split at h
      · rename_i hf; subst hf
        split at h
        · obtain ⟨rfl, rfl, rfl⟩ := jsome_tri h
          have hp := root_fn J hJ
          exact hp
        · exact absurd h (by simp)
      · split at h
        · rename_i hf; subst hf
          split at h
          · rename_i da La db Lb
            obtain ⟨rfl, rfl, rfl⟩ := jsome_tri h
            obtain ⟨qda, qla, qdb, qlb, c0, c1, -⟩ := hl.un
            subst qda qdb
            have hp := eadd_fn J hJ (unW La) (unW Lb) c0 c1
            unfold wV at hp
            rw [← qla, ← qlb] at hp
            exact hp
          · exact absurd h (by simp)
        · split at h
          · rename_i hf; subst hf
            split at h
            · rename_i da La db Lb
              obtain ⟨rfl, rfl, rfl⟩ := jsome_tri h
              obtain ⟨qda, qla, qdb, qlb, c0, c1, -⟩ := hl.un
              subst qda qdb
              have hp := emul_fn J hJ (unW La) (unW Lb) c0 c1
              unfold wV at hp
              rw [← qla, ← qlb] at hp
              exact hp
            · exact absurd h (by simp)
          · split at h
            · rename_i hf; subst hf
              split at h
              · rename_i da La db Lb
                obtain ⟨rfl, rfl, rfl⟩ := jsome_tri h
                obtain ⟨qda, qla, qdb, qlb, c0, c1, -⟩ := hl.un
                subst qda qdb
                have hp := epow_fn J hJ (unW La) (unW Lb) c0 c1
                unfold wV at hp
                rw [← qla, ← qlb] at hp
                exact hp
              · exact absurd h (by simp)
            · split at h
              · rename_i hf; subst hf
                split at h
                · rename_i da La
                  obtain ⟨rfl, rfl, rfl⟩ := jsome_tri h
                  obtain ⟨qda, qla, c0, -⟩ := hl.un
                  subst qda
                  have hp := einv_fn J hJ (unW La) c0
                  unfold wV at hp
                  rw [← qla] at hp
                  exact hp
                · exact absurd h (by simp)
              · exact absurd h (by simp)
def SGe2f : FuncId → List V → Option (List Prop × Bool × V) := fun f args =>
  if f = 74 then match args with
    | [.sq 1 da La, .val (.int .i64 k)] => some ([da = .val (.int .u32 0), La = wds (unW La), 0 ≤ k, k < 32, (unW La).length ≤ 67108864, W32 (unW La)], false, wV (dg (vl (unW La) / 2 ^ k.toNat)))
    | _ => none
  else if f = 75 then match args with
    | [.sq 1 da La, .sq 1 db Lb] => some ([da = .val (.int .u32 0), La = wds (unW La), db = .val (.int .u32 0), Lb = wds (unW Lb), (unW La).length ≤ 67108864, (unW Lb).length ≤ 67108864, W32 (unW La), W32 (unW Lb)], false, wV (dg (vl (unW La) + vl (unW Lb))))
    | _ => none
  else if f = 31 then match args with
    | [.sq 1 da La, .sq 1 db Lb] => some ([da = .val (.int .u32 0), La = wds (unW La), db = .val (.int .u32 0), Lb = wds (unW Lb), (unW La).length ≤ 1073741824, (unW Lb).length ≤ 1073741824, W32 (unW La), W32 (unW Lb)], false, .i (cmp3 (vl (unW La)) (vl (unW Lb))))
    | _ => none
  else if f = 23 then match args with
    | [.sq 1 da La] => some ([da = .val (.int .u32 0), La = wds (unW La), (unW La).length ≤ 67108864, W32 (unW La)], false, .i (bl (vl (unW La))))
    | _ => none
  else if f = 77 then match args with
    | [.sq 1 da La, .val (.int .i64 i)] => some ([da = .val (.int .u32 0), La = wds (unW La), I64 i, W32 (unW La)], false, .bb (decide (0 ≤ i) && tb (vl (unW La)) i.toNat))
    | _ => none
  else if f = 30 then match args with
    | [.by b] => some ([0 < b.length, b.length ≤ 67108864], false, wV (dg (leN b)))
    | _ => none
  else SGe2af f args
def SGe2 (J : Inv) : Sig := ⟨J, sdf, SGe2f, noH, 0⟩
theorem SGe2_ok (J : Inv) (hJ : EdT J) : SigOk Tryz.prog (SGe2 J) := by
  refine .plain fun f args l fr r h hl => ?_
  change SGe2f f args = some (l, fr, r) at h
  unfold SGe2f at h
  split at h
  · rename_i hf; subst hf
    split at h
    · rename_i da La k
      obtain ⟨rfl, rfl, rfl⟩ := jsome_tri h
      obtain ⟨qda, qla, c0, c1, c2, c3, -⟩ := hl.un
      subst qda
      have hp := (by have h := shr_fn J (unW La) k.toNat (by omega) c2 c3; rwa [Int.toNat_of_nonneg c0] at h)
      unfold wV at hp
      rw [← qla] at hp
      exact hp
    · exact absurd h (by simp)
  · split at h
    · rename_i hf; subst hf
      split at h
      · rename_i da La db Lb
        obtain ⟨rfl, rfl, rfl⟩ := jsome_tri h
        obtain ⟨qda, qla, qdb, qlb, c0, c1, c2, c3, -⟩ := hl.un
        subst qda qdb
        have hp := add_fn J (unW La) (unW Lb) c0 c1 c2 c3
        unfold wV at hp
        rw [← qla, ← qlb] at hp
        exact hp
      · exact absurd h (by simp)
    · split at h
      · rename_i hf; subst hf
        split at h
        · rename_i da La db Lb
          obtain ⟨rfl, rfl, rfl⟩ := jsome_tri h
          obtain ⟨qda, qla, qdb, qlb, c0, c1, c2, c3, -⟩ := hl.un
          subst qda qdb
          have hp := cmp_fn J (unW La) (unW Lb) c0 c1 c2 c3
          unfold wV at hp
          rw [← qla, ← qlb] at hp
          exact hp
        · exact absurd h (by simp)
      · split at h
        · rename_i hf; subst hf
          split at h
          · rename_i da La
            obtain ⟨rfl, rfl, rfl⟩ := jsome_tri h
            obtain ⟨qda, qla, c0, c1, -⟩ := hl.un
            subst qda
            have hp := bits_fn J (unW La) c0 c1
            unfold wV at hp
            rw [← qla] at hp
            exact hp
          · exact absurd h (by simp)
        · split at h
          · rename_i hf; subst hf
            split at h
            · rename_i da La i
              obtain ⟨rfl, rfl, rfl⟩ := jsome_tri h
              obtain ⟨qda, qla, c0, c1, -⟩ := hl.un
              subst qda
              have hp := bit_fn J (unW La) i c0 c1
              unfold wV at hp
              rw [← qla] at hp
              exact hp
            · exact absurd h (by simp)
          · split at h
            · rename_i hf; subst hf
              split at h
              · rename_i b
                obtain ⟨rfl, rfl, rfl⟩ := jsome_tri h
                obtain ⟨c0, c1, -⟩ := hl.un
                have hp := number_fn J b c0 c1
                exact hp
              · exact absurd h (by simp)
            · exact (SGe2a_ok J hJ).1 f args l fr r h hl
/-- With ed's sub, of nil too. -/
def SGe3f : FuncId → List V → Option (List Prop × Bool × V) := fun f args =>
  if f = 69 then match args with
    | [.sq 1 da La, .sq 1 db Lb] => some ([da = .val (.int .u32 0), La = wds (unW La), db = .val (.int .u32 0), Lb = wds (unW Lb), Sm (unW La), Sm (unW Lb)], false, wV (dg (subP (vl (unW La)) (vl (unW Lb)))))
    | [.val (.slice none 0 0), .sq 1 db Lb] => some ([db = .val (.int .u32 0), Lb = wds (unW Lb), Sm (unW Lb)], false, wV (dg (subP 0 (vl (unW Lb)))))
    | _ => none
  else SGe2f f args
def SGe3 (J : Inv) : Sig := ⟨J, sdf, SGe3f, noH, 0⟩
theorem SGe3f_ok (J : Inv) (hJ : EdT J) (f : FuncId) (args : List V) (l : List Prop) (fr : Bool) (r : V) (h : SGe3f f args = some (l, fr, r)) (hl : AllP l) : Fn Tryz.prog J f fr args r := by
  unfold SGe3f at h
  split at h
  · rename_i hf; subst hf
    split at h
    · obtain ⟨rfl, rfl, rfl⟩ := jsome_tri h
      rename_i da La db Lb
      have q1 : da = .val (.int .u32 0) := hl _ (by simp)
      have q2 : La = wds (unW La) := hl _ (by simp)
      have q3 : db = .val (.int .u32 0) := hl _ (by simp)
      have q4 : Lb = wds (unW Lb) := hl _ (by simp)
      have hp := esub_fn J hJ (unW La) (unW Lb) (hl _ (by simp)) (hl _ (by simp))
      subst q1 q3
      unfold wV at hp
      rw [← q2, ← q4] at hp
      exact hp
    · obtain ⟨rfl, rfl, rfl⟩ := jsome_tri h
      rename_i db Lb
      have q3 : db = .val (.int .u32 0) := hl _ (by simp)
      have q4 : Lb = wds (unW Lb) := hl _ (by simp)
      have hp := Fn.nil1 (esub_fn J hJ [] (unW Lb) Sm_nil (hl _ (by simp)))
      subst q3
      rw [show wV (unW Lb) = .sq 1 (.val (.int .u32 0)) Lb by unfold wV; rw [← q4]] at hp
      exact hp
    · exact absurd h (by simp)
  · exact (SGe2_ok J hJ).1 f args l fr r h hl
theorem SGe3_ok (J : Inv) (hJ : EdT J) : SigOk Tryz.prog (SGe3 J) := .plain (SGe3f_ok J hJ)
theorem cmp3_zero {x y : Nat} : (cmp3 x y == 0) = decide (x = y) := by
  unfold cmp3
  by_cases h : x < y
  · rw [if_pos h, decide_eq_false (by omega)]; rfl
  · rw [if_neg h]
    by_cases h2 : y < x
    · rw [if_pos h2, decide_eq_false (by omega)]; rfl
    · rw [if_neg h2, decide_eq_true (by omega)]; rfl
theorem dgp {n : Nat} (h : n < p25519) : (dg n).length ≤ 128 := by have := (Sm.of_lt h).n; rwa [vl_dg] at this
noncomputable def abA : Code := (Tryz.f33).body.getD .skip
noncomputable def abT : Code := iR (iR (iR (iR (iR abA))))
theorem abA_eq : (Tryz.f33).body = some (.seq (iL abA) (.seq (iL (iR abA)) (.seq (iL (iR (iR abA))) (.seq (iL (iR (iR (iR abA)))) (.seq (iL (iR (iR (iR (iR abA))))) abT))))) := by kernel_rfl
/-- The end: the root that was found is looked at. -/
theorem ab_tail (J : Inv) (E : En) (H : List (Nat × Ob)) (nx x1 xx : Nat) (odd : Bool) (hx : x1 < p25519) (hxx : xx < p25519) (e8 : E.get 8 = some (wV (dg x1))) (e7 : E.get 7 = some (wV (dg xx))) (e1 : E.get 1 = some (.bb odd)) (n : Nat) (ok : Bool)
    (hok : ok = !(!decide (mulP x1 x1 = xx) || (decide (x1 = 0) && odd))) (hn : n = if ok = true then (if (x1 % 2 == 1) = odd then x1 else subP 0 x1) else 0) (nrm : S → Prop) (ex : List (Nat × (S → Prop))) :
    Kseq Tryz.prog (SGe3 J) abT ⟨nrm, RetP (Tryz.f33).results.toList (.tu [wV (dg n), .bb ok]), ex⟩ ⟨E, H, nx⟩ := by
  simp only [abT, abA, iR, iL, Tryz.f33, Option.getD_some]
  simp only [wV] at e7 e8
  simp only [↓Br_t, ↓Br_f, ↓Brg_t, ↓Brg_f, bnC, Kseq_app, Nat.reduceMul, Nat.reduceLeDiff, Nat.reduceEqDiff, Nat.reduceLT, Nat.reduceAdd, Nat.reduceSub, ↓reduceIte, implies_true, reduceCtorEq, ne_eq, ↓shr_eq, IntKind.bits, Int.reduceToNat, Int.reducePow, dite_eq_ite, Value.oneCell', Nat.reduceBEq, Nat.reduceDiv, bnS, bnN, bnT, spB, vl_dg, W32_dg, unW_wds, wV, sdf, wds_nil, SGe3, SGe3f, SGe2f, SGe2af, unW_one, e8, e7, e1, cmp3_zero, tb_zero]
  have hb : ((bl x1 : Int) == 0) = decide (x1 = 0) := by
    by_cases h : x1 = 0
    · subst h; rw [bl_zero]; rfl
    · have h2 : bl x1 ≠ 0 := fun e => h (bl_eq_zero.1 e)
      rw [decide_eq_false h, beq_eq_false_iff_ne]
      omega
  rw [hb]
  have l1 := dgp hx
  have l2 := dgp hxx
  have l3 := dgp (mulP_lt x1 x1)
  refine ⟨.of_lt hx, .of_lt hx, by omega, by omega, fun _ => by omega, fun h h2 => ?_, fun h => ?_, fun h => ⟨by constructor <;> omega, fun h2 => ⟨.of_lt hx, ?_, ?_⟩, fun h2 => ⟨?_, ?_⟩⟩⟩
  · rw [h, h2]; rfl
  · rw [h] at hok
    have hok : ok = false := hok
    subst hok
    rw [if_neg (by simp)] at hn
    rw [hn, dg_zero]
    exact ⟨rfl, rfl⟩
  · rw [h] at hok
    have hok : ok = true := hok
    subst hok
    rw [if_pos rfl, if_neg (fun e => by rw [e] at h2; simp at h2)] at hn
    rw [hn]
  · rw [h] at hok
    exact hok.symm
  · rw [h] at hok
    have hok : ok = true := hok
    subst hok
    rw [if_pos rfl, if_pos (by simpa using h2)] at hn
    rw [hn]
  · rw [h] at hok
    exact hok.symm
theorem abscissa_fn (J : Inv) (hJ : EdT J) (y : Nat) (odd : Bool) (hy : y < p25519) : Fn Tryz.prog J 33 false [wV (dg y), .bb odd] (.tu [wV (dg (if edBad y odd then 0 else edX2 y odd)), .bb (!edBad y odd)]) := by
  refine fn_intro Tryz.func33 abA_eq (by kernel_rfl) (Nat.le_of_ble_eq_true (by kernel_rfl)) (by kernel_rfl) (by kernel_rfl) (by simp [V.cl, clL, wV, wds_cl]) (SGe3_ok J hJ) ?_
  simp only [abA, iR, iL, Tryz.f33, Option.getD_some]
  simp only [↓Br_t, ↓Br_f, ↓Brg_t, ↓Brg_f, bnC, Kseq_app, Nat.reduceMul, Nat.reduceLeDiff, Nat.reduceEqDiff, Nat.reduceLT, Nat.reduceAdd, Nat.reduceSub, ↓reduceIte, implies_true, reduceCtorEq, ne_eq, ↓shr_eq, IntKind.bits, Int.reduceToNat, Int.reducePow, dite_eq_ite, Value.oneCell', Nat.reduceBEq, Nat.reduceDiv, bnS, bnN, bnT, spB, vl_dg, W32_dg, unW_wds, wV, sdf, wds_nil, SGe3, SGe3f, SGe2f, SGe2af, unW_one, cmp3_zero]
  rw [vl_one, show vl [3] = 3 from rfl]
  have l1 := p_len
  have l2 := dg_sum_len (x := p25519) (y := 3) (k := 8) l1 (by rw [dg, dif_neg (by omega), show 3 / 4294967296 = 0 from rfl, dg_zero]; simp)
  have l3 := dg_mono (Nat.div_le_self (p25519 + 3) (2 ^ 3))
  have l4 := dgp (mulP_lt (subP (mulP y y) 1) (invP (addP (mulP curveN (mulP y y)) 1)))
  have hq : Sm (dg ((p25519 + 3) / 2 ^ 3)) := ⟨by omega, W32_dg _, by rw [vl_dg]; omega⟩
  have hS : ∀ {n : Nat}, n < p25519 → Sm (dg n) := fun h => .of_lt h
  have hX1 : edX1 y < p25519 := by unfold edX1; split <;> first | exact powP_lt _ _ | exact mulP_lt _ _
  have hXX : edXX y < p25519 := mulP_lt _ _
  have hnn : (if edBad y odd = true then 0 else edX2 y odd) = if (!edBad y odd) = true then (if (edX1 y % 2 == 1) = odd then edX1 y else subP 0 (edX1 y)) else 0 := by
    cases edBad y odd <;> rfl
  refine ⟨hS hy, hS hy, rfl, hS (mulP_lt _ _), Sm_one, Sm_curve, hS (mulP_lt _ _), rfl, hS (mulP_lt _ _), Sm_one, hS (addP_lt _ _), hS (subP_lt _ _), hS (invP_lt _), rfl, by omega, W32.one (by omega), by omega, by omega, by omega, hS (mulP_lt _ _), hq, hS (powP_lt _ _), hS (powP_lt _ _), by have := dgp (mulP_lt (edX0 y) (edX0 y)); unfold edX0 edXX at this; omega, by omega, fun h => ⟨hS (powP_lt _ _), Sm_root, ?_⟩, fun h => ?_⟩
  · refine ab_tail J _ _ _ (edX1 y) (edXX y) odd hX1 hXX ?_ ?_ ?_ _ _ rfl hnn _ _
    · have h2 : ¬ mulP (edX0 y) (edX0 y) = edXX y := by rw [Bool.not_eq_true', decide_eq_false_iff_not] at h; exact h
      simp only [↓Br_t, ↓Br_f, ↓Brg_t, ↓Brg_f, bnC, Kseq_app, Nat.reduceMul, Nat.reduceLeDiff, Nat.reduceEqDiff, Nat.reduceLT, Nat.reduceAdd, Nat.reduceSub, ↓reduceIte, implies_true, reduceCtorEq, ne_eq, ↓shr_eq, IntKind.bits, Int.reduceToNat, Int.reducePow, dite_eq_ite, Value.oneCell', Nat.reduceBEq, Nat.reduceDiv, bnS, bnN, bnT, spB, vl_dg, W32_dg, unW_wds, wV, sdf, wds_nil]
      rw [edX1, if_neg h2]
      rfl
    · simp only [↓Br_t, ↓Br_f, ↓Brg_t, ↓Brg_f, bnC, Kseq_app, Nat.reduceMul, Nat.reduceLeDiff, Nat.reduceEqDiff, Nat.reduceLT, Nat.reduceAdd, Nat.reduceSub, ↓reduceIte, implies_true, reduceCtorEq, ne_eq, ↓shr_eq, IntKind.bits, Int.reduceToNat, Int.reducePow, dite_eq_ite, Value.oneCell', Nat.reduceBEq, Nat.reduceDiv, bnS, bnN, bnT, spB, vl_dg, W32_dg, unW_wds, wV, sdf, wds_nil]
      rfl
    · simp only [↓Br_t, ↓Br_f, ↓Brg_t, ↓Brg_f, bnC, Kseq_app, Nat.reduceMul, Nat.reduceLeDiff, Nat.reduceEqDiff, Nat.reduceLT, Nat.reduceAdd, Nat.reduceSub, ↓reduceIte, implies_true, reduceCtorEq, ne_eq, ↓shr_eq, IntKind.bits, Int.reduceToNat, Int.reducePow, dite_eq_ite, Value.oneCell', Nat.reduceBEq, Nat.reduceDiv, bnS, bnN, bnT, spB, vl_dg, W32_dg, unW_wds, wV, sdf, wds_nil]
  · refine ab_tail J _ _ _ (edX1 y) (edXX y) odd hX1 hXX ?_ ?_ ?_ _ _ rfl hnn _ _
    · have h2 : mulP (edX0 y) (edX0 y) = edXX y := by rw [Bool.not_eq_false', decide_eq_true_eq] at h; exact h
      simp only [↓Br_t, ↓Br_f, ↓Brg_t, ↓Brg_f, bnC, Kseq_app, Nat.reduceMul, Nat.reduceLeDiff, Nat.reduceEqDiff, Nat.reduceLT, Nat.reduceAdd, Nat.reduceSub, ↓reduceIte, implies_true, reduceCtorEq, ne_eq, ↓shr_eq, IntKind.bits, Int.reduceToNat, Int.reducePow, dite_eq_ite, Value.oneCell', Nat.reduceBEq, Nat.reduceDiv, bnS, bnN, bnT, spB, vl_dg, W32_dg, unW_wds, wV, sdf, wds_nil]
      rw [edX1, if_pos h2]
      rfl
    · simp only [↓Br_t, ↓Br_f, ↓Brg_t, ↓Brg_f, bnC, Kseq_app, Nat.reduceMul, Nat.reduceLeDiff, Nat.reduceEqDiff, Nat.reduceLT, Nat.reduceAdd, Nat.reduceSub, ↓reduceIte, implies_true, reduceCtorEq, ne_eq, ↓shr_eq, IntKind.bits, Int.reduceToNat, Int.reducePow, dite_eq_ite, Value.oneCell', Nat.reduceBEq, Nat.reduceDiv, bnS, bnN, bnT, spB, vl_dg, W32_dg, unW_wds, wV, sdf, wds_nil]
      rfl
    · simp only [↓Br_t, ↓Br_f, ↓Brg_t, ↓Brg_f, bnC, Kseq_app, Nat.reduceMul, Nat.reduceLeDiff, Nat.reduceEqDiff, Nat.reduceLT, Nat.reduceAdd, Nat.reduceSub, ↓reduceIte, implies_true, reduceCtorEq, ne_eq, ↓shr_eq, IntKind.bits, Int.reduceToNat, Int.reducePow, dite_eq_ite, Value.oneCell', Nat.reduceBEq, Nat.reduceDiv, bnS, bnN, bnT, spB, vl_dg, W32_dg, unW_wds, wV, sdf, wds_nil]
def edYb (b : List UInt8) : Nat := leN (b.set 31 (u8 (bt .and .u8 (byteAt b 31) 127)))
def edOdd (b : List UInt8) : Bool := !(bt .and .u8 (byteAt b 31) 128 == 0)
def edOk (b : List UInt8) : Bool := decide (b.length = 32) && (decide (edYb b < p25519) && !edBad (edYb b) (edOdd b))
def edPt (b : List UInt8) : V := if edOk b = true then .st [wV (dg (edX2 (edYb b) (edOdd b))), wV (dg (edYb b)), .bb false] else .st [.val (.slice none 0 0), .val (.slice none 0 0), .bb false]
def edCo (b : List UInt8) : Int := if edOk b = true then 0 else 93
theorem edPt_cl (b : List UInt8) : (edPt b).cl = true := by unfold edPt; split <;> simp [V.cl, clL, wV, wds_cl]
def SGe4f : FuncId → List V → Option (List Prop × Bool × V) := fun f args =>
  if f = 33 then match args with
    | [.sq 1 dy Ly, .bb odd] => some ([dy = .val (.int .u32 0), Ly = wds (unW Ly), (unW Ly) = dg (vl (unW Ly)), vl (unW Ly) < p25519], false, .tu [wV (dg (if edBad (vl (unW Ly)) odd then 0 else edX2 (vl (unW Ly)) odd)), .bb (!edBad (vl (unW Ly)) odd)])
    | _ => none
  else SGe3f f args
def SGe4 (J : Inv) : Sig := ⟨J, sdf, SGe4f, noH, 0⟩
theorem SGe4_ok (J : Inv) (hJ : EdT J) : SigOk Tryz.prog (SGe4 J) := by
  refine .plain fun f args l fr r h hl => ?_
  change SGe4f f args = some (l, fr, r) at h
  unfold SGe4f at h
  split at h
  · rename_i hf; subst hf
    split at h
    · rename_i dy Ly odd
      obtain ⟨rfl, rfl, rfl⟩ := jsome_tri h
      obtain ⟨qdy, qly, c0, c1, -⟩ := hl.un
      subst qdy
      have hp := (by have h := abscissa_fn J hJ (vl (unW Ly)) odd c1; rwa [← c0] at h)
      unfold wV at hp
      rw [← qly] at hp
      exact hp
    · exact absurd h (by simp)
  · exact (SGe3_ok J hJ).1 f args l fr r h hl
def SGe5 (J : Inv) : Sig := ⟨J, sdf, SGe4f, SGnh, 0⟩
theorem SGe5_ok (J : Inv) (hJ : EdT J) : SigOk Tryz.prog (SGe5 J) := ⟨(SGe4_ok J hJ).1, SGnh_ok J⟩
theorem and_u8 {a b : Nat} (ha : a < 256) (hb : b < 256) : bt .and .u8 (a : Int) (b : Int) = ((a &&& b : Nat) : Int) := by
  rw [bt_eq]
  have hx : a &&& b < 2 ^ 8 := Nat.and_lt_two_pow _ (by omega)
  have h1 : (BitVec.ofInt 8 (a : Int)).toNat = a := by rw [BitVec.ofInt_natCast, BitVec.toNat_ofNat]; exact Nat.mod_eq_of_lt (by omega)
  have h2 : (BitVec.ofInt 8 (b : Int)).toNat = b := by rw [BitVec.ofInt_natCast, BitVec.toNat_ofNat]; exact Nat.mod_eq_of_lt (by omega)
  show IntKind.u8.wrap ((BitVec.ofInt 8 (a : Int) &&& BitVec.ofInt 8 (b : Int)).toNat : Int) = _
  rw [BitVec.toNat_and, h1, h2, show ∀ n : Int, IntKind.u8.wrap n = n % 256 from fun n => rfl]
  omega
theorem and127 (l : List UInt8) (i : Nat) : 0 ≤ bt .and .u8 (byteAt l i) 127 ∧ bt .and .u8 (byteAt l i) 127 < 256 := by
  have h := and_u8 (a := (l.getD i 0).toNat) (b := 127) (l.getD i 0).toNat_lt (by omega)
  have h2 : (l.getD i 0).toNat &&& 127 < 2 ^ 8 := Nat.and_lt_two_pow _ (by omega)
  have e : byteAt l i = (((l.getD i 0).toNat : Nat) : Int) := rfl
  rw [e, show (127 : Int) = ((127 : Nat) : Int) from rfl, h]
  omega
theorem cmp3_ge {x y : Nat} : decide (0 ≤ cmp3 x y) = decide (y ≤ x) := by
  unfold cmp3
  by_cases h : x < y
  · rw [if_pos h, decide_eq_false (by omega), decide_eq_false (by omega)]
  · rw [if_neg h]
    by_cases h2 : y < x
    · rw [if_pos h2, decide_eq_true (by omega), decide_eq_true (by omega)]
    · rw [if_neg h2, decide_eq_true (by omega), decide_eq_true (by omega)]
theorem decode_fn (J : Inv) (hJ : EdT J) (b : List UInt8) : Fn Tryz.prog J 18 false [.by b] (.tu [edPt b, .i (edCo b)]) := by
  refine Fn.of_plain (nx := 10) (post := []) ?_ (by have := edPt_cl b; simp [V.cl, clL, V.i, this])
  refine fnH_introC Tryz.func18 rfl (by kernel_rfl) (Nat.le_of_ble_eq_true (by kernel_rfl)) (by kernel_rfl) (by kernel_rfl) (SGe5_ok J hJ) rfl ?_
  unfold Tryz.f18
  simp only [↓Br_t, ↓Br_f, ↓Brg_t, ↓Brg_f, bnC, Kseq_app, Nat.reduceMul, Nat.reduceLeDiff, Nat.reduceEqDiff, Nat.reduceLT, Nat.reduceAdd, Nat.reduceSub, ↓reduceIte, implies_true, reduceCtorEq, ne_eq, ↓shr_eq, IntKind.bits, Int.reduceToNat, Int.reducePow, dite_eq_ite, Value.oneCell', Nat.reduceBEq, Nat.reduceDiv, bnS, bnN, bnT, spB, vl_dg, W32_dg, unW_wds, wV, sdf, wds_nil, SGe5, SGe4f, SGe3f, SGe2f, SGe2af, SGnh, List.length_set, cmp3_ge]
  have hY : leN (b.set 31 (u8 (bt .and .u8 (byteAt b 31) 127))) = edYb b := rfl
  have hO : (!bt .and .u8 (byteAt b 31) 128 == 0) = edOdd b := rfl
  rw [hY, hO]
  have hbad : ∀ {c : Bool}, edOk b = c → c = false → edPt b = .st [.val (.slice none 0 0), .val (.slice none 0 0), .bb false] ∧ edCo b = 93 := fun h1 h2 => by
    subst h2
    unfold edPt edCo
    rw [h1]
    exact ⟨rfl, rfl⟩
  refine ⟨fun h => ?_, fun h => ?_⟩
  · have h1 : b.length ≠ 32 := by
      rw [Bool.not_eq_true', beq_eq_false_iff_ne] at h; omega
    obtain ⟨e1, e2⟩ := hbad (c := false) (by unfold edOk; rw [decide_eq_false h1]; rfl) rfl
    rw [e1, e2]
    refine .inl ?_
    simp only [↓Br_t, ↓Br_f, ↓Brg_t, ↓Brg_f, bnC, Kseq_app, Nat.reduceMul, Nat.reduceLeDiff, Nat.reduceEqDiff, Nat.reduceLT, Nat.reduceAdd, Nat.reduceSub, ↓reduceIte, implies_true, reduceCtorEq, ne_eq, ↓shr_eq, IntKind.bits, Int.reduceToNat, Int.reducePow, dite_eq_ite, Value.oneCell', Nat.reduceBEq, Nat.reduceDiv, bnS, bnN, bnT, spB, vl_dg, W32_dg, unW_wds, wV, sdf, wds_nil]
  · have h1 : b.length = 32 := by
      rw [Bool.not_eq_false', beq_iff_eq] at h; omega
    have hk := and127 b 31
    have hlt : (dg (edYb b)).length ≤ 1073741824 := by
      have h2 := leN_lt (b.set 31 (u8 (bt .and .u8 (byteAt b 31) 127)))
      rw [hY, List.length_set, h1, show (256 : Nat) ^ 32 = 4294967296 ^ 8 by decide] at h2
      have := dg_len h2
      omega
    have hpl := p_len
    refine ⟨by omega, by omega, by omega, by omega, by omega, by omega, by omega, by omega, by omega, by omega, by omega, hk.1, hk.2, by omega, by omega, hlt, by omega, fun h2 => ?_, fun h2 => ⟨by rw [decide_eq_false_iff_not] at h2; omega, fun h3 => ?_, fun h3 => ?_⟩⟩
    · rw [decide_eq_true_eq] at h2
      obtain ⟨e1, e2⟩ := hbad (c := false) (by unfold edOk; rw [decide_eq_false (show ¬ edYb b < p25519 by omega)]; simp) rfl
      rw [e1, e2]
      refine .inl ?_
      simp only [↓Br_t, ↓Br_f, ↓Brg_t, ↓Brg_f, bnC, Kseq_app, Nat.reduceMul, Nat.reduceLeDiff, Nat.reduceEqDiff, Nat.reduceLT, Nat.reduceAdd, Nat.reduceSub, ↓reduceIte, implies_true, reduceCtorEq, ne_eq, ↓shr_eq, IntKind.bits, Int.reduceToNat, Int.reducePow, dite_eq_ite, Value.oneCell', Nat.reduceBEq, Nat.reduceDiv, bnS, bnN, bnT, spB, vl_dg, W32_dg, unW_wds, wV, sdf, wds_nil]
    · rw [Bool.not_not] at h3
      obtain ⟨e1, e2⟩ := hbad (c := false) (by unfold edOk; rw [h3]; simp) rfl
      rw [e1, e2]
      refine .inl ?_
      simp only [↓Br_t, ↓Br_f, ↓Brg_t, ↓Brg_f, bnC, Kseq_app, Nat.reduceMul, Nat.reduceLeDiff, Nat.reduceEqDiff, Nat.reduceLT, Nat.reduceAdd, Nat.reduceSub, ↓reduceIte, implies_true, reduceCtorEq, ne_eq, ↓shr_eq, IntKind.bits, Int.reduceToNat, Int.reducePow, dite_eq_ite, Value.oneCell', Nat.reduceBEq, Nat.reduceDiv, bnS, bnN, bnT, spB, vl_dg, W32_dg, unW_wds, wV, sdf, wds_nil]
    · rw [Bool.not_not] at h3
      rw [decide_eq_false_iff_not] at h2
      have hok : edOk b = true := by unfold edOk; rw [h3, decide_eq_true h1, decide_eq_true (show edYb b < p25519 by omega)]; rfl
      have e1 : edPt b = .st [wV (dg (edX2 (edYb b) (edOdd b))), wV (dg (edYb b)), .bb false] := by unfold edPt; rw [hok]; rfl
      have e2 : edCo b = 0 := by unfold edCo; rw [hok]; rfl
      rw [e1, e2, h3, if_neg (by simp)]
      refine .inl ?_
      simp only [↓Br_t, ↓Br_f, ↓Brg_t, ↓Brg_f, bnC, Kseq_app, Nat.reduceMul, Nat.reduceLeDiff, Nat.reduceEqDiff, Nat.reduceLT, Nat.reduceAdd, Nat.reduceSub, ↓reduceIte, implies_true, reduceCtorEq, ne_eq, ↓shr_eq, IntKind.bits, Int.reduceToNat, Int.reducePow, dite_eq_ite, Value.oneCell', Nat.reduceBEq, Nat.reduceDiv, bnS, bnN, bnT, spB, vl_dg, W32_dg, unW_wds, wV, sdf, wds_nil]
end Go.Proofs.YtmpklnhmempmgaaGreatDoor
