/- SpkiChecks: the statement. For every input the call returns true and the input reads as it did, where what it reads is of bulk at most 1048576. The program's own package-level variables hold what its text lays. -/
import Derived.Test.YtmpklnhmempmgaaGreatDoorCards
import Derived.Test.YtmpklnhmempmgaaGreatDoorTie
import Derived.Deep.DeepHandedRow
import Derived.Carry
import Derived.Test.YtmpklnhmempmgaaGreatDoorQ43
namespace Go.Proofs.YtmpklnhmempmgaaGreatDoor.SpkiChecksUpto
open Go.ChangeShapes Go.WideShapes Go.ChangeAt Go.RowKit
set_option maxRecDepth 100000
theorem own : ownKnob Tryz.prog.godebug = none := by kernel_rfl
theorem laidOut : laidOutB Tryz.prog = true := by kernel_rfl
theorem cells8 : Tryz.prog.cellsOf 88 = 8 := by kernel_rfl
theorem cells1 : Tryz.prog.cellsOf 69 = 1 := by kernel_rfl
theorem g0 : Tryz.prog.globalNamed "signet/ed.primeLimbs" = some 0 := by kernel_rfl
theorem t0 : (Tryz.prog.globals[0]?).map (·.type) = some 88 := by kernel_rfl
theorem d0 {H : Type} : (Rows.laid_signet_ed_primeLimbs : DataW H) = Lib.tabData .u32 (primeL.map fun (n : Nat) => (n : Int)) := rfl
theorem g1 : Tryz.prog.globalNamed "signet/ed.curveLimbs" = some 1 := by kernel_rfl
theorem t1 : (Tryz.prog.globals[1]?).map (·.type) = some 88 := by kernel_rfl
theorem d1 {H : Type} : (Rows.laid_signet_ed_curveLimbs : DataW H) = Lib.tabData .u32 (curveL.map fun (n : Nat) => (n : Int)) := rfl
theorem g2 : Tryz.prog.globalNamed "signet/ed.rootLimbs" = some 2 := by kernel_rfl
theorem t2 : (Tryz.prog.globals[2]?).map (·.type) = some 88 := by kernel_rfl
theorem d2 {H : Type} : (Rows.laid_signet_ed_rootLimbs : DataW H) = Lib.tabData .u32 (rootL.map fun (n : Nat) => (n : Int)) := rfl
theorem inv {W : World} (h : laidMetH Tryz.prog Rows.spkiChecksUptoRow.laid W) : JE.I W fun _ => False := by
  have h0 : laidMet Tryz.prog Rows.spkiChecksUptoRow.laid W := h
  have h0x : Tab8 W (fun _ => False) 0 primeL := by
    have h1 : laidMet Tryz.prog (("signet/ed.primeLimbs", Lib.tabData .u32 (primeL.map fun (n : Nat) => (n : Int))) :: [("signet/ed.curveLimbs", Rows.laid_signet_ed_curveLimbs), ("signet/ed.rootLimbs", Rows.laid_signet_ed_rootLimbs)]) W := by
      rw [← d0]
      exact h0
    exact tab8_of (Lib.tabIs_of_head (rest := [("signet/ed.curveLimbs", Rows.laid_signet_ed_curveLimbs), ("signet/ed.rootLimbs", Rows.laid_signet_ed_rootLimbs)]) g0 t0 Tryz.underlying88 Tryz.underlying69 cells1 cells8 h1) g0 rfl
  have h1x : Tab8 W (fun _ => False) 1 curveL := by
    have h1 : laidMet Tryz.prog (("signet/ed.curveLimbs", Lib.tabData .u32 (curveL.map fun (n : Nat) => (n : Int))) :: [("signet/ed.rootLimbs", Rows.laid_signet_ed_rootLimbs)]) W := by
      rw [← d1]
      exact h0.tail
    exact tab8_of (Lib.tabIs_of_head (rest := [("signet/ed.rootLimbs", Rows.laid_signet_ed_rootLimbs)]) g1 t1 Tryz.underlying88 Tryz.underlying69 cells1 cells8 h1) g1 rfl
  have h2x : Tab8 W (fun _ => False) 2 rootL := by
    have h1 : laidMet Tryz.prog (("signet/ed.rootLimbs", Lib.tabData .u32 (rootL.map fun (n : Nat) => (n : Int))) :: []) W := by
      rw [← d2]
      exact h0.tail.tail
    exact tab8_of (Lib.tabIs_of_head (rest := []) g2 t2 Tryz.underlying88 Tryz.underlying69 cells1 cells8 h1) g2 rfl
  exact ⟨h0x, h1x, h2x⟩
theorem contract (H : Type) (enc : TypeId × Value → H) (W : World) (base : Nat) (args : Array Value) (ds gs : List (DataW H)) (before : List MemPlace)
    (hval : ∀ (j : Nat) t v, Tryz.f3.params[j]? = some t → args[j]? = some v → Value.okWide Tryz.prog W .any base t v)
    (hW : DataW.Whole enc Tryz.prog Tryz.f3.params.toList Rows.spkiChecksSpec.vars false W args.toList ds gs before) (hcond : Rows.uptoSmall H (ds ++ gs) = true)
    (hsz : (DataW.weightsEach Tryz.prog (Tryz.f3.params.toList ++ Rows.spkiChecksSpec.plain.varTypes Tryz.prog) (ds ++ gs)).all (· ≤ reachBytes) = true)
    (hL : laidMetH Tryz.prog Rows.spkiChecksUptoRow.laid W) :
    Calls Tryz.prog 3 args W fun e W' => ∃ v, e = .returned v ∧ Rows.spkiChecksSpec.post enc Tryz.prog Tryz.f3 false true false false W args v W' := by
  have hW' := hW
  obtain ⟨p, q, hA0, hV, rfl, hfz, hnd⟩ := hW
  have hA : DataW.TrodAll enc Tryz.prog W 0 (fun _ => true) true Tryz.f3.params.toList args.toList ds p := hA0
  rw [Tryz.params3] at hA hval
  obtain ⟨v0, vs0, d0, ds0, p0, q0, hargs, rfl, rfl, h0, r0⟩ := trodAll_cons hA
  obtain ⟨rfl, rfl, rfl⟩ := trodAll_nil r0
  obtain rfl : args = #[v0] := by cases args; simp_all
  obtain ⟨rfl, rfl⟩ := trodVars_none hV
  have k0 := h0
  have lt0 : ∀ x ∈ p0, x.block < W.heap.size := by obtain ⟨m, hm⟩ := k0; exact DataW.trod_lt m _ _ _ hm
  simp only [Rows.uptoSmall, decide_eq_true_eq, List.append_nil, Rows.uptoBulkAll] at hcond
  obtain ⟨kty, crv, s, n, e, x, y, hk, w0⟩ := arg_key Tryz.underlying26 (by kernel_rfl) rfl rfl rfl rfl rfl rfl rfl rfl rfl rfl rfl rfl rfl rfl (by kernel_rfl) (by kernel_rfl) (by kernel_rfl) Tryz.underlying22 Tryz.underlying23 Tryz.underlying24 Tryz.underlying5 (by kernel_rfl) (hval 0 26 v0 rfl rfl) h0 (by omega)
  clear hA0
  have hI := inv hL
  refine ((Fn.of_plain (SpkiChecks_own JE edT_JE kty crv s n e x y hk) rfl).2 W (fun _ => False) [v0] hI (fun _ h => h.elim) rfl fun i v x hv hx => ?_).mono fun e W' ⟨y, he, hx, hy⟩ => ?_
  · match i, hv, hx with
    | 0, hv, hx => obtain rfl := Option.some.inj hv; obtain rfl := Option.some.inj hx; exact w0
    | n + 1, hv, _ => simp at hv
  · subst he
    obtain rfl := rep_bb hy
    exact ⟨_, rfl, _, _, _, [], _, [], hW', trodAll_mk1 (shut_bool Tryz.underlying4 _), trodAll_mk1 (Below.trod laidOut (by kernel_rfl) (of_decide_eq_true (by kernel_rfl)) k0 hx lt0), rfl, hx.frame _, fun h => by cases h⟩
def setG (h : Array Obj) (g : Nat) (cs : Array Value) : Array Obj :=
  h.modify g fun
    | .cells _ t frozen => .cells cs t frozen
    | o => o
noncomputable def laidWorld (os : Os) : World :=
  { World.holding Tryz.prog os ⟨#[], #[], []⟩ with heap := setG (setG (setG ((World.holding Tryz.prog os ⟨#[], #[], []⟩).heap) 0 #[.int .u32 4294967277, .int .u32 4294967295, .int .u32 4294967295, .int .u32 4294967295, .int .u32 4294967295, .int .u32 4294967295, .int .u32 4294967295, .int .u32 2147483647]) 1 #[.int .u32 324630691, .int .u32 1978355146, .int .u32 1094834347, .int .u32 7342669, .int .u32 2004478104, .int .u32 2361868409, .int .u32 728759923, .int .u32 1375956206]) 2 #[.int .u32 3052494653, .int .u32 991028440, .int .u32 1389370247, .int .u32 3502041081, .int .u32 3255052376, .int .u32 3568500582, .int .u32 2956861684, .int .u32 1417468799] }
theorem laid_met (os : Os) : laidMet Tryz.prog Rows.spkiChecksUptoRow.laid ((laidWorld os).forCall (fun _ _ => 0) ⟨#[], #[.agg #[.int .i64 0, .int .i64 0, .slice none 0 0, .slice none 0 0, .slice none 0 0, .slice none 0 0, .slice none 0 0]], []⟩).memory :=
  laidMet_of_run' 8 (by kernel_rfl) (by kernel_rfl)
theorem reads (os : Os) {H : Type} (enc : TypeId × Value → H) : ∃ places, DataW.whole enc Tryz.prog ((laidWorld os).forCall (fun _ _ => 0) ⟨#[], #[.agg #[.int .i64 0, .int .i64 0, .slice none 0 0, .slice none 0 0, .slice none 0 0, .slice none 0 0, .slice none 0 0]], []⟩).memory Tryz.f3.params.toList Rows.spkiChecksSpec.vars false (#[.agg #[.int .i64 0, .int .i64 0, .slice none 0 0, .slice none 0 0, .slice none 0 0, .slice none 0 0, .slice none 0 0]] : Array Value).toList 8 = some ([.agg [.lit (.int .i64 0), .lit (.int .i64 0), .nil, .nil, .nil, .nil, .nil]], [], places) :=
  ⟨[], by kernel_rfl⟩
set_option maxRecDepth 100000 in
theorem lifted (os : Os) (started : os.Started) (H : Type) (enc : TypeId × Value → H) (F : Stop.Interp) :
    ReturnsInHanded {} Tryz.checked os 3 .any ((Rows.OpenSpec.upto Rows.spkiChecksSpec).preRow enc Tryz.prog Tryz.f3 Rows.spkiChecksUptoRow.domain false Rows.spkiChecksUptoRow.laid) (((Rows.OpenSpec.upto Rows.spkiChecksSpec).at F).post enc Tryz.prog Tryz.f3 false true false false) := by
  obtain ⟨places, hx⟩ := reads os enc
  refine returnsInHanded_of_row (C := Tryz.checked) (s := (Rows.OpenSpec.upto Rows.spkiChecksSpec)) own started (by kernel_rfl) Tryz.func3
    (witness_row_at (enc := enc) (C := Tryz.checked) false (laidWorld os) #[.agg #[.int .i64 0, .int .i64 0, .slice none 0 0, .slice none 0 0, .slice none 0 0, .slice none 0 0, .slice none 0 0]] rfl (by kernel_rfl) (by kernel_rfl) (by kernel_rfl)
      (OpenSpec.preRow_of_cond 8 hx (by kernel_rfl) (fun k hk => by cases hk; kernel_rfl) (by kernel_rfl) (laid_met os))) ?_
  intro W base args ds gs before hval hW _ hcond hsz hL _ _
  exact contract H enc W base args ds gs before hval hW (hcond _ rfl) hsz hL
set_option maxRecDepth 100000 in
theorem said : Rows.SpkiChecksUptoSaid :=
  OpenClaim.holds_of_cond 3 Tryz.f3 rfl rfl rfl rfl rfl rfl rfl ⟨rfl, rfl, rfl, rfl, rfl⟩ rfl rfl rfl rfl rfl (by kernel_rfl) Tryz.func3 (by kernel_rfl)
    (of_decide_eq_true (by kernel_rfl)) (by unfold Func.isWrapper; first | (rw [if_pos (by decide +kernel)]; kernel_rfl) | (rw [if_neg (by decide +kernel)]; exact ⟨rfl, rfl⟩))
    (fun os started H enc _ F => by rw [OpenClaim.pre_eq_preRow]; exact lifted os started H enc F)
theorem plain (f : FuncId) (fn : Func) (hf : Tryz.pinned.checked.prog.funcNamed "signet/signetlaw14.SpkiChecks" = some f) (hfn : Tryz.pinned.checked.prog.funcs[f]? = some fn) :
    false = Tryz.pinned.checked.prog.looks [] ∧ ∀ (j : Nat) t, fn.params[j]? = some t → Tryz.pinned.checked.prog.wantsStandIn t = false := by
  obtain rfl : f = 3 := Option.some.inj ((show Tryz.prog.funcNamed "signet/signetlaw14.SpkiChecks" = some 3 by kernel_rfl).symm.trans hf) |>.symm
  obtain rfl : fn = Tryz.f3 := (Option.some.inj (Tryz.func3.symm.trans hfn)).symm
  refine ⟨by kernel_rfl, fun j t ht => ?_⟩
  rw [Tryz.params3] at ht
  have hm := Array.mem_of_getElem? ht
  simp only [List.mem_toArray, List.mem_cons, List.not_mem_nil, or_false] at hm
  obtain rfl := hm
  exact (show Tryz.prog.wantsStandIn 26 = false by kernel_rfl)
end Go.Proofs.YtmpklnhmempmgaaGreatDoor.SpkiChecksUpto
namespace Go.Proofs.YtmpklnhmempmgaaGreatDoor
/-- The statement. -/
theorem SpkiChecksUpto_holds : Rows.SpkiChecksUptoCardSaid :=
  Claim7.holds_tied_plain_at .later [] _ _ _ _ SpkiChecksUpto.said (fun _ h => by cases h) (by kernel_rfl) (fun _ h => by cases h) spkiChecksUpto_row_tie rfl ⟨rfl, rfl⟩ (by kernel_rfl) rfl SpkiChecksUpto.plain (by kernel_rfl)
#print axioms SpkiChecksUpto_holds
end Go.Proofs.YtmpklnhmempmgaaGreatDoor
