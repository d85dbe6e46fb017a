/- The law on keys: a key in new memory; the whole. Tables of the library's as what is taken for granted of the world. What a statement's arguments read as. What a key that came in reads as; the tables of Ed25519's numbers that the program's text lays. -/
import Derived.Test.YtmpklnhmempmgaaGreatDoorQ35
import Derived.Test.YtmpklnhmempmgaaGreatDoorQ42
import Derived.Test.YtmpklnhmempmgaaGreatDoorQ16
import Derived.Lib.LaidTab
import Derived.WalkKit
import Derived.ProofKit
import Derived.OpenShut
import Derived.Deep.Slices
import Derived.SizedLaws
import Derived.Stop.LaidErr
import Derived.Test.YtmpklnhmempmgaaGreatDoorRows
import Derived.Deep.Strs
namespace Go.Proofs.YtmpklnhmempmgaaGreatDoor
open Go.RowKit
set_option linter.unusedSimpArgs false
set_option maxRecDepth 100000
def keyOk (s n e x y : List UInt8) : Prop := s.length ≤ 16777216 ∧ n.length ≤ 16777216 ∧ e.length ≤ 16777216 ∧ x.length ≤ 16777216 ∧ y.length ≤ 16777216
def LSeh : FuncId → List V → List (Nat × Ob) → Nat → Option CallH := fun f args h nx =>
  if f = 4 then match args with
    | [v] => match (fz h v).1 with
      | .st [.val (.int .i64 kty), .val (.int .i64 crv), .by s, .by n, .by e, .by x, .by y] => some ⟨[keyOk s n e x y], [true], [], lenV kty crv nx s.length n.length e.length x.length y.length, lenH nx s n e x y, nx + 6⟩
      | _ => none
    | _ => none
  else none
theorem LSeh_ok (J : Inv) (f : FuncId) (args : List V) (h : List (Nat × Ob)) (nx : Nat) (c : CallH) (hc : LSeh f args h nx = some c) (hl : AllP c.l) : FnH Tryz.prog J f (mixA h c.bw args).1 c.pre nx c.res c.post c.nx := by
  unfold LSeh at hc
  split at hc
  · rename_i hf; subst hf
    split at hc
    · rename_i v
      split at hc
      · rename_i kty crv s n e x y hv
        obtain rfl := Option.some.inj hc
        have q : keyOk s n e x y := hl _ (by simp)
        obtain ⟨q1, q2, q3, q4, q5⟩ := q
        show FnH _ _ _ [(fz h v).1] _ _ _ _ _
        rw [hv]
        exact lent_own J nx kty crv s n e x y q1 q2 q3 q4 q5
      · exact absurd hc (by simp)
    · exact absurd hc (by simp)
  · exact absurd hc (by simp)
def LSe (J : Inv) (nx : Nat) : Sig := ⟨J, sdf, S0f, LSeh, nx⟩
theorem LSe_ok (J : Inv) (nx : Nat) : SigOk Tryz.prog (LSe J nx) := ⟨fun _ _ _ _ _ h => absurd h (by simp [LSe, S0f]), LSeh_ok J⟩
theorem copied_own (J : Inv) (nx : Nat) (kty crv : Int) (s n e x y : List UInt8) (hk : keyOk s n e x y) : FnH Tryz.prog J 9 [keyV kty crv s n e x y] [] nx (lenV kty crv nx s.length n.length e.length x.length y.length) (lenH nx s n e x y) (nx + 6) := by
  refine fnH_introC Tryz.func9 rfl (by kernel_rfl) (Nat.le_of_ble_eq_true (by kernel_rfl)) (by kernel_rfl) (by kernel_rfl) (LSe_ok J nx) rfl ?_
  unfold Tryz.f9
  simp only [↓Br_t, ↓Br_f, ↓Brg_t, ↓Brg_f, bnC, Kseq_app, Nat.reduceMul, Nat.reduceLeDiff, Nat.reduceEqDiff, Nat.reduceLT, Nat.reduceAdd, Nat.reduceSub, ↓reduceIte, implies_true, reduceCtorEq, ne_eq, ↓shr_eq, IntKind.bits, Int.reduceToNat, Int.reducePow, dite_eq_ite, Value.oneCell', Nat.reduceBEq, Nat.reduceDiv, bnS, bnN, bnT, spB, vl_dg, W32_dg, unW_wds, wV, sdf, wds_nil, LSe, S0f, LSeh, keyV, lenV, lenH]
  refine ⟨hk, RenC.intro [(nx, nx + 2), (nx + 1, nx + 3), (nx + 2, nx + 4), (nx + 3, nx + 5), (nx + 4, nx + 6), (nx + 5, nx + 1)] ⟨[(2, .op (nx + 5) 0)], (nx + 5, .box 26 (lenV kty crv nx s.length n.length e.length x.length y.length)) :: lenH nx s n e x y, nx + 6⟩ ?_ ?_⟩
  · have n1 : ∀ j, (nx + j < nx) = False := fun j => by simp
    have n0 : (nx < nx) = False := by simp
    simp only [↓Br_t, ↓Br_f, ↓Brg_t, ↓Brg_f, bnC, Kseq_app, Nat.reduceMul, Nat.reduceLeDiff, Nat.reduceEqDiff, Nat.reduceLT, Nat.reduceAdd, Nat.reduceSub, ↓reduceIte, implies_true, reduceCtorEq, ne_eq, ↓shr_eq, IntKind.bits, Int.reduceToNat, Int.reducePow, dite_eq_ite, Value.oneCell', Nat.reduceBEq, Nat.reduceDiv, bnS, bnN, bnT, spB, vl_dg, W32_dg, unW_wds, wV, sdf, wds_nil, lenV, lenH, n0, n1]
    simp
  · simp only [↓Br_t, ↓Br_f, ↓Brg_t, ↓Brg_f, bnC, Kseq_app, Nat.reduceMul, Nat.reduceLeDiff, Nat.reduceEqDiff, Nat.reduceLT, Nat.reduceAdd, Nat.reduceSub, ↓reduceIte, implies_true, reduceCtorEq, ne_eq, ↓shr_eq, IntKind.bits, Int.reduceToNat, Int.reducePow, dite_eq_ite, Value.oneCell', Nat.reduceBEq, Nat.reduceDiv, bnS, bnN, bnT, spB, vl_dg, W32_dg, unW_wds, wV, sdf, wds_nil, lenV, lenH]
    exact Nat.le_refl _
def LSff : FuncId → List V → Option (List Prop × Bool × V) := fun f args =>
  if f = 5 then match args with
    | [.st [.val (.int .i64 kty), .val (.int .i64 crv), .by s, .by n, .by e, .by x, .by y]] => some ([keyOk s n e x y], false, .i (chkC (goodK kty crv s n e x y)))
    | _ => none
  else if f = 6 then match args with
    | [.st [.val (.int .i64 kty), .val (.int .i64 crv), .by s, .by n, .by e, .by x, .by y]] => some ([keyOk s n e x y], false, .i (chkC (goodK kty crv s n e x y)))
    | _ => none
  else none
def LSfh : FuncId → List V → List (Nat × Ob) → Nat → Option CallH := fun f args h nx =>
  if f = 7 then match args with
    | [.st [.val (.int .i64 kty), .val (.int .i64 crv), .vw (.r k) 1 0 n0, .vw (.r k1) 1 0 n1, .vw (.r k2) 1 0 n2, .vw (.r k3) 1 0 n3, .vw (.r k4) 1 0 n4], .st [.val (.int .i64 kty'), .val (.int .i64 crv'), .by s, .by n, .by e, .by x, .by y]] => some ⟨[kty = kty', crv = crv', k1 = k + 1, k2 = k + 2, k3 = k + 3, k4 = k + 4, n0 = s.length, n1 = n.length, n2 = e.length, n3 = x.length, n4 = y.length, k + 4 < nx, keyOk s n e x y], [], lenH k s n e x y, .bb true, lenH k s n e x y, nx⟩
    | _ => none
  else if f = 8 then match args with
    | [.st [.val (.int .i64 _), .val (.int .i64 _), .vw (.r k) 1 0 n0, .vw (.r k1) 1 0 n1, .vw (.r k2) 1 0 n2, .vw (.r k3) 1 0 n3, .vw (.r k4) 1 0 n4]] => match Hroot h k, Hroot h k1, Hroot h k2, Hroot h k3, Hroot h k4 with
      | some (.row _ (.by s)), some (.row _ (.by n)), some (.row _ (.by e)), some (.row _ (.by x)), some (.row _ (.by y)) => some ⟨[k1 = k + 1, k2 = k + 2, k3 = k + 3, k4 = k + 4, (s.take n0).length = n0, (n.take n1).length = n1, (e.take n2).length = n2, (x.take n3).length = n3, (y.take n4).length = n4, k + 4 < nx, keyOk (s.take n0) (n.take n1) (e.take n2) (x.take n3) (y.take n4)], [], lenH k (s.take n0) (n.take n1) (e.take n2) (x.take n3) (y.take n4), .tu [], lenH k (ovB (s.take n0)) (ovB (n.take n1)) (ovB (e.take n2)) (ovB (x.take n3)) (ovB (y.take n4)), nx⟩
      | _, _, _, _, _ => none
    | _ => none
  else if f = 9 then match args with
    | [v] => match (fz h v).1 with
      | .st [.val (.int .i64 kty), .val (.int .i64 crv), .by s, .by n, .by e, .by x, .by y] => some ⟨[keyOk s n e x y], [true], [], lenV kty crv nx s.length n.length e.length x.length y.length, lenH nx s n e x y, nx + 6⟩
      | _ => none
    | _ => none
  else LSeh f args h nx
def LSf (J : Inv) : Sig := ⟨J, sdf, LSff, LSfh, 0⟩
theorem LSf_ok (J : Inv) (hJ : EdT J) : SigOk Tryz.prog (LSf J) := by
  constructor
  · intro f args l fr r h hl
    change LSff f args = some (l, fr, r) at h
    unfold LSff at h
    split at h
    · rename_i hf; subst hf
      split at h
      · obtain ⟨rfl, rfl, rfl⟩ := jsome_tri h
        rename_i kty crv s n e x y
        obtain ⟨q1, q2, q3, q4, q5⟩ : keyOk s n e x y := hl _ (by simp)
        exact check_fn J hJ kty crv s n e x y q1 q2 q3 q4 q5
      · exact absurd h (by simp)
    · split at h
      · rename_i hf; subst hf
        split at h
        · obtain ⟨rfl, rfl, rfl⟩ := jsome_tri h
          rename_i kty crv s n e x y
          obtain ⟨q1, q2, q3, q4, q5⟩ : keyOk s n e x y := hl _ (by simp)
          exact rcheck_fn J kty crv s n e x y q1 q2 q3 q4 q5
        · exact absurd h (by simp)
      · exact absurd h (by simp)
  · intro f args h nx c hc hl
    change LSfh f args h nx = some c at hc
    unfold LSfh at hc
    split at hc
    · rename_i hf; subst hf
      split at hc
      · rename_i kty crv k n0 k1 n1 k2 n2 k3 n3 k4 n4 kty' crv' s n e x y
        obtain rfl := Option.some.inj hc
        have a1 : kty = kty' := hl _ (by simp)
        have a2 : crv = crv' := hl _ (by simp)
        have a3 : k1 = k + 1 := hl _ (by simp)
        have a4 : k2 = k + 2 := hl _ (by simp)
        have a5 : k3 = k + 3 := hl _ (by simp)
        have a6 : k4 = k + 4 := hl _ (by simp)
        have b0 : n0 = s.length := hl _ (by simp)
        have b1 : n1 = n.length := hl _ (by simp)
        have b2 : n2 = e.length := hl _ (by simp)
        have b3 : n3 = x.length := hl _ (by simp)
        have b4 : n4 = y.length := hl _ (by simp)
        have hk : k + 4 < nx := hl _ (by simp)
        obtain ⟨q1, q2, q3, q4, q5⟩ : keyOk s n e x y := hl _ (by simp)
        subst a1 a2 a3 a4 a5 a6 b0 b1 b2 b3 b4
        exact still_own J k nx hk kty crv s n e x y q1 q2 q3 q4 q5
      · exact absurd hc (by simp)
    · split at hc
      · rename_i hf; subst hf
        split at hc
        · rename_i kty crv k n0 k1 n1 k2 n2 k3 n3 k4 n4
          split at hc
          · rename_i _ s _ n _ e _ x _ y _ _ _ _ _
            obtain rfl := Option.some.inj hc
            have a3 : k1 = k + 1 := hl _ (by simp)
            have a4 : k2 = k + 2 := hl _ (by simp)
            have a5 : k3 = k + 3 := hl _ (by simp)
            have a6 : k4 = k + 4 := hl _ (by simp)
            have b0 : (s.take n0).length = n0 := hl (_ = n0) (by simp)
            have b1 : (n.take n1).length = n1 := hl (_ = n1) (by simp)
            have b2 : (e.take n2).length = n2 := hl (_ = n2) (by simp)
            have b3 : (x.take n3).length = n3 := hl (_ = n3) (by simp)
            have b4 : (y.take n4).length = n4 := hl (_ = n4) (by simp)
            have hk : k + 4 < nx := hl _ (by simp)
            obtain ⟨q1, q2, q3, q4, q5⟩ : keyOk (s.take n0) (n.take n1) (e.take n2) (x.take n3) (y.take n4) := hl _ (by simp)
            subst a3 a4 a5 a6
            have hp := over_own J k nx hk kty crv (s.take n0) (n.take n1) (e.take n2) (x.take n3) (y.take n4) q1 q2 q3 q4 q5
            unfold lenV at hp
            rw [b0, b1, b2, b3, b4] at hp
            exact hp
          · exact absurd hc (by simp)
        · exact absurd hc (by simp)
      · split at hc
        · rename_i hf; subst hf
          split at hc
          · rename_i v
            split at hc
            · rename_i kty crv s n e x y hv
              obtain rfl := Option.some.inj hc
              have q : keyOk s n e x y := hl _ (by simp)
              show FnH _ _ _ [(fz h v).1] _ _ _ _ _
              rw [hv]
              exact copied_own J nx kty crv s n e x y q
            · exact absurd hc (by simp)
          · exact absurd hc (by simp)
        · exact LSeh_ok J f args h nx c hc hl
theorem SpkiChecks_own (J : Inv) (hJ : EdT J) (kty crv : Int) (s n e x y : List UInt8) (hk : keyOk s n e x y) : FnH Tryz.prog J 3 [keyV kty crv s n e x y] [] 0 (.bb true) [] 0 := by
  refine fnH_intro Tryz.func3 rfl (by kernel_rfl) (Nat.le_of_ble_eq_true (by kernel_rfl)) (by kernel_rfl) (by kernel_rfl) (LSf_ok J hJ) rfl ?_
  unfold Tryz.f3
  have eT : ∀ l : List UInt8, List.take l.length (l ++ mk 70) = l := fun l => by simp
  have eO : ∀ l : List UInt8, List.take l.length (ovB l ++ mk 70) = ovB l := fun l => by rw [← ovB_len l]; simp
  simp only [↓Br_t, ↓Br_f, ↓Brg_t, ↓Brg_f, bnC, Kseq_app, Nat.reduceMul, Nat.reduceLeDiff, Nat.reduceEqDiff, Nat.reduceLT, Nat.reduceAdd, Nat.reduceSub, ↓reduceIte, implies_true, reduceCtorEq, ne_eq, ↓shr_eq, IntKind.bits, Int.reduceToNat, Int.reducePow, dite_eq_ite, Value.oneCell', Nat.reduceBEq, Nat.reduceDiv, bnS, bnN, bnT, spB, vl_dg, W32_dg, unW_wds, wV, sdf, wds_nil, LSf, LSff, LSfh, LSeh, keyV, lenV, lenH, eT, eO]
  have hk2 : keyOk (ovB s) (ovB n) (ovB e) (ovB x) (ovB y) := by
    unfold keyOk
    rw [ovB_len, ovB_len, ovB_len, ovB_len, ovB_len]
    exact hk
  refine ⟨hk, hk, hk, fun _ => hk, hk, hk2, hk2, hk2, RenC.intro [] ⟨[(2, .bb true)], [], 0⟩ ?_ ?_⟩ <;> simp only [↓Br_t, ↓Br_f, ↓Brg_t, ↓Brg_f, bnC, Kseq_app, Nat.reduceMul, Nat.reduceLeDiff, Nat.reduceEqDiff, Nat.reduceLT, Nat.reduceAdd, Nat.reduceSub, ↓reduceIte, implies_true, reduceCtorEq, ne_eq, ↓shr_eq, IntKind.bits, Int.reduceToNat, Int.reducePow, dite_eq_ite, Value.oneCell', Nat.reduceBEq, Nat.reduceDiv, bnS, bnN, bnT, spB, vl_dg, W32_dg, unW_wds, wV, sdf, wds_nil]
  skip
open Go.ChangeShapes Go.WideShapes Go.ChangeAt Go.RowKit
theorem cell_lt {w : World} {a : Addr} {v : Value} (h : w.cell? a = some v) : a.block < w.heap.size := by
  rcases Nat.lt_or_ge a.block w.heap.size with h1 | h1
  · exact h1
  · have : w.heap[a.block]? = none := Array.getElem?_eq_none h1
    unfold World.cell? at h
    rw [this] at h
    simp at h
open Go.ChangeShapes Go.WideShapes Go.ChangeAt Go.RowKit
theorem cell_keepE {w w' : World} {b : Nat} (e : w'.heap[b]? = w.heap[b]?) (o : Nat) : w'.cell? ⟨b, o, none⟩ = w.cell? ⟨b, o, none⟩ := by
  simp only [World.cell?, e]
/-- A table of eight words lies in the variable g. -/
structure Tab8 (w : World) (F : Nat → Prop) (g : Nat) (L : List Nat) : Prop where
  lt : g < w.heap.size
  fr : ¬ F g
  at' : ∀ i, i < 8 → w.cell? ⟨g, i, none⟩ = some (.int .u32 ((L.getD i 0 : Nat) : Int))
theorem Tab8.out {w w' : World} {F F' : Nat → Prop} {g : Nat} {L : List Nat} (h : Tab8 w F g L) (hs : w.heap.size ≤ w'.heap.size) (hb : ∀ b, b < w.heap.size → ¬ F b → w'.heap[b]? = w.heap[b]?) (hF : ∀ b, F' b → F b ∨ w.heap.size ≤ b) : Tab8 w' F' g L :=
  ⟨Nat.lt_of_lt_of_le h.lt hs, fun hf => (hF _ hf).elim h.fr fun h2 => by have := h.lt; omega, fun i hi => (cell_keepE (hb _ h.lt h.fr) _).trans (h.at' i hi)⟩
def JE : Inv where
  I := fun w F => Tab8 w F 0 primeL ∧ Tab8 w F 1 curveL ∧ Tab8 w F 2 rootL
  out := fun {w w' F F'} h hs hb hF => ⟨h.1.out hs hb hF, h.2.1.out hs hb hF, h.2.2.out hs hb hF⟩
  gl := ⟨fun g => if g = 0 then some (.pe (.sq 8 .any [.st (wds primeL)]) 0 0) else if g = 1 then some (.pe (.sq 8 .any [.st (wds curveL)]) 0 0) else if g = 2 then some (.pe (.sq 8 .any [.st (wds rootL)]) 0 0) else none, none, fun _ _ _ => none⟩
  lkOk := fun _ _ _ _ _ h => by cases h
  glOk := fun {w F} g v hg h O W => by
    have key : ∀ L : List Nat, L.length = 8 → Tab8 w F g L → Rep w ⟨F, O, W⟩ (.pe (.sq 8 .any [.st (wds L)]) 0 0) (.pointer (some ⟨g, 0, none⟩)) := fun L h8 ht => by
      refine .pe _ 8 1 (fun i => [V.st (wds L)].getD i .any) 0 0 g 0 (fun _ j => .int .u32 ((L.getD j 0 : Nat) : Int)) rfl (by omega) ht.lt ht.fr (fun i hi j hj => ?_) (fun i hi j hj => ?_)
      · obtain rfl : i = 0 := by omega
        rw [show 0 + (0 * 8 + j) = j by omega]
        exact ⟨ht.at' j hj, rfl⟩
      · obtain rfl : i = 0 := by omega
        have e : (V.st (wds L)).cell j = .val (.int .u32 ((L.getD j 0 : Nat) : Int)) := by
          show (wds L).getD j .any = _
          rw [List.getD_eq_getElem?_getD, List.getElem?_eq_getElem (by rw [wds_len]; omega), Option.getD_some, ← wds_get, List.getD_eq_getElem?_getD, List.getElem?_eq_getElem (by rw [wds_len]; omega), Option.getD_some]
        show Rep _ _ ((V.st (wds L)).cell j) _
        rw [e]
        exact .val _
    have hg : (if g = 0 then some (V.pe (.sq 8 .any [.st (wds primeL)]) 0 0) else if g = 1 then some (V.pe (.sq 8 .any [.st (wds curveL)]) 0 0) else if g = 2 then some (V.pe (.sq 8 .any [.st (wds rootL)]) 0 0) else none) = some v := hg
    split at hg
    · rename_i hgg
      subst hgg
      obtain rfl := Option.some.inj hg
      exact key primeL rfl h.1
    · split at hg
      · rename_i hgg
        subst hgg
        obtain rfl := Option.some.inj hg
        exact key curveL rfl h.2.1
      · split at hg
        · rename_i hgg
          subst hgg
          obtain rfl := Option.some.inj hg
          exact key rootL rfl h.2.2
        · cases hg
theorem edT_JE : EdT JE := ⟨rfl, rfl, rfl⟩
theorem tab8_of {P : Program} {W : World} {name : String} {g : Nat} {L : List Nat} (h : Lib.TabIs P W name .u32 (L.map fun (n : Nat) => (n : Int))) (hg : P.globalNamed name = some g) (h8 : L.length = 8) : Tab8 W (fun _ => False) g L := by
  have hc : ∀ i, i < 8 → W.cell? ⟨g, i, none⟩ = some (.int .u32 ((L.getD i 0 : Nat) : Int)) := fun i hi => by
    rw [h.cell hg i (by rw [List.length_map]; omega), List.getD_eq_getElem?_getD, List.getElem?_map, List.getD_eq_getElem?_getD, List.getElem?_eq_getElem (by omega)]
    rfl
  exact ⟨cell_lt (hc 0 (by omega)), fun h => h, hc⟩
theorem bulk_mem {H : Type} : ∀ {l : List (DataW H)} {d : DataW H}, d ∈ l → Rows.uptoBulk d ≤ Rows.uptoBulkAll l
  | x :: r, d, h => by
    simp only [Rows.uptoBulkAll]
    rcases List.mem_cons.1 h with rfl | h
    · omega
    · have := bulk_mem h; omega
theorem bulk_one {H : Type} (d : DataW H) : 1 ≤ Rows.uptoBulk d := by
  cases d with
  | lit l => cases l <;> simp [Rows.uptoBulk]
  | _ => simp [Rows.uptoBulk]
theorem bulk_len {H : Type} : ∀ l : List (DataW H), l.length ≤ Rows.uptoBulkAll l
  | [] => by simp [Rows.uptoBulkAll]
  | d :: r => by
    have h1 := bulk_one d
    have h2 := bulk_len r
    simp only [Rows.uptoBulkAll, List.length_cons]; omega
/-- A cell that reads as a slice of bytes. -/
theorem bytes_trod {H : Type} {enc : TypeId × Value → H} {P : Program} {w : World} {base : Nat} {sp : Nat → Bool} {hd : Bool} {t e : TypeId} {v : Value} {y : DataW H × List MemPlace} {fuel : Nat}
    (ht : P.underlying t = some (.slice e)) (he : P.underlying e = some (.int .u8)) (hc : P.cellsOf e = 1) (hf : DataW.trod enc P w base sp hd fuel t [v] = some y) :
    ∃ l : List UInt8, Rep w (.bare fun _ => False) (.by l) v ∧ v.oneCell' = true ∧ (l = [] ∨ ∃ es s, y.1 = .slice es s ∧ l.length = es.length) := by
  rcases open_ints ht he hc hf with ⟨hcs, _⟩ | ⟨x, len0, cap0, zs, hcs, _, hl, hm, hz, hx, hcell, hwz⟩
  · obtain rfl : v = .slice none 0 0 := by simpa using hcs
    exact ⟨[], .sl _ 1 0 _ none 0 0 0 (fun _ _ => undef) rfl (Nat.le_refl _) (fun h => by omega) (fun i hi => by omega) (fun i hi => by omega), rfl, .inl rfl⟩
  · obtain rfl : v = .slice (some x) len0 cap0 := by simpa using hcs
    have hlz : len0 ≤ zs.length := by rw [hz]; split <;> omega
    have hlen : ((zs.take len0).map u8).length = len0 := by simp; omega
    have hlen2 : (zs.take len0).length = len0 := by simp; omega
    refine ⟨(zs.take len0).map u8, ?_, rfl, .inr ⟨lits .u8 (zs.take len0), lits .u8 (zs.drop len0), by rw [hx], by rw [hlen]; unfold lits; rw [List.length_map, hlen2]⟩⟩
    have hw : ∀ i, i < len0 → 0 ≤ zs.getD i 0 ∧ zs.getD i 0 < 256 := fun i hi => by
      have hmem : zs.getD i 0 ∈ zs := by rw [List.getD_eq_getElem?_getD, List.getElem?_eq_getElem (by omega)]; exact List.getElem_mem _
      have h1 := hwz _ hmem
      simp only [Lit.wf, Bool.and_eq_true, decide_eq_true_eq] at h1
      have e1 : IntKind.u8.min = 0 := rfl
      have e2 : IntKind.u8.max = 255 := rfl
      omega
    have hb2 : ∀ i, i < len0 → byteAt ((zs.take len0).map u8) i = zs.getD i 0 := fun i hi => by
      obtain ⟨h1, h2⟩ := hw i hi
      unfold byteAt
      rw [List.getD_eq_getElem?_getD, List.getElem?_map, List.getElem?_take, if_pos hi, List.getElem?_eq_getElem (by omega)]
      rw [List.getD_eq_getElem?_getD, List.getElem?_eq_getElem (by omega)] at h1 h2 ⊢
      exact u8_toNat _ h1 h2
    by_cases h0 : len0 = 0
    · subst h0
      exact .sl _ 1 0 (fun i => .val (.int .u8 (byteAt ((zs.take 0).map u8) i))) (some x) cap0 0 0 (fun _ _ => undef) rfl hl (fun h => by omega) (fun i hi => by omega) (fun i hi => by omega)
    · obtain ⟨b, off, spot⟩ := x
      have hc0 := hcell 0 (by omega)
      have hspot : spot = none := by simpa [Addr.add] using World.cell?_spot hc0
      subst hspot
      have hcl : ∀ i, i < len0 → w.cell? ⟨b, off + i, none⟩ = some (.int .u8 (zs.getD i 0)) := fun i hi => by
        have := hcell i (by omega)
        rwa [addr_add] at this
      refine .sl _ 1 len0 (fun i => .val (.int .u8 (byteAt ((zs.take len0).map u8) i))) (some ⟨b, off, none⟩) cap0 b off (fun i _ => .int .u8 (zs.getD i 0)) ?_ hl (fun _ => ⟨rfl, cell_lt (hcl 0 (by omega)), fun h => h⟩) (fun i hi j hj => ?_) (fun i hi j hj => ?_)
      · simp only [V.elems, hlen]
      · obtain rfl : j = 0 := by omega
        rw [Nat.mul_one, Nat.add_zero]
        exact ⟨hcl i hi, rfl⟩
      · obtain rfl : j = 0 := by omega
        rw [hb2 i hi]
        exact .val _
theorem arg_key {H : Type} {enc : TypeId × Value → H} {P : Program} {w : World} {base b0 : Nat} {sp : Nat → Bool} {hd : Bool} {t i0 i1 b c : TypeId} {f0 f1 f2 f3 f4 f5 f6 : Field} {v : Value} {d : DataW H} {ps : List MemPlace}
    (hs : P.underlying t = some (.struct #[f0, f1, f2, f3, f4, f5, f6])) (ce : P.cellsOf t = 7) (o0 : f0.offset = 0) (o1 : f1.offset = 1) (o2 : f2.offset = 2) (o3 : f3.offset = 3) (o4 : f4.offset = 4) (o5 : f5.offset = 5) (o6 : f6.offset = 6)
    (e0 : f0.type = i0) (e1 : f1.type = i1) (e2 : f2.type = b) (e3 : f3.type = b) (e4 : f4.type = b) (e5 : f5.type = b) (e6 : f6.type = b) (c0 : P.cellsOf i0 = 1) (c1 : P.cellsOf i1 = 1) (cb : P.cellsOf b = 1) (u0 : P.underlying i0 = some (.int .i64)) (u1 : P.underlying i1 = some (.int .i64)) (ub : P.underlying b = some (.slice c)) (uc : P.underlying c = some (.int .u8)) (cc : P.cellsOf c = 1)
    (hval : Value.okWide P w .any b0 t v) (h : DataW.Trod enc P w base sp hd t v d ps) (hbk : Rows.uptoBulk d ≤ 1048576) : ∃ (kty crv : Int) (s n e x y : List UInt8), keyOk s n e x y ∧ Rep w (.bare fun _ => False) (keyV kty crv s n e x y) v := by
  obtain ⟨cs, rfl, hcs⟩ := okWide_struct hs hval
  obtain ⟨fuel, hf⟩ := h
  obtain ⟨xs, nn, _, hx, hl, hlen, hfd⟩ := DataW.trod_struct hs hf
  rw [ce] at hcs
  have hd : d = .agg (xs.map (·.1)) := (Prod.mk.inj hx).1
  rw [hd, Rows.uptoBulk] at hbk
  match cs, hcs with
  | ⟨[v0, v1, v2, v3, v4, v5, v6]⟩, _ =>
    have hlen : xs.length = 7 := by simpa using hlen
    obtain ⟨y0, y1, y2, y3, y4, y5, y6, rfl⟩ : ∃ y0 y1 y2 y3 y4 y5 y6, xs = [y0, y1, y2, y3, y4, y5, y6] := by
      match xs, hlen with
      | [y0, y1, y2, y3, y4, y5, y6], _ => exact ⟨_, _, _, _, _, _, _, rfl⟩
    · skip
      have t0 := hfd 0 f0 rfl
      have t1 := hfd 1 f1 rfl
      have t2 := hfd 2 f2 rfl
      have t3 := hfd 3 f3 rfl
      have t4 := hfd 4 f4 rfl
      have t5 := hfd 5 f5 rfl
      have t6 := hfd 6 f6 rfl
      simp only [Value.cells, o0, o1, o2, o3, o4, o5, o6, e0, e1, e2, e3, e4, e5, e6, c0, c1, cb, List.drop_zero, List.drop_succ_cons, List.take_succ_cons, List.take_zero, List.getElem?_cons_zero, List.getElem?_cons_succ] at t0 t1 t2 t3 t4 t5 t6
      obtain ⟨m0, h0, _⟩ := DataW.trod_int u0 t0
      obtain ⟨m1, h1, _⟩ := DataW.trod_int u1 t1
      obtain rfl : v0 = .int .i64 m0 := by simpa using h0
      obtain rfl : v1 = .int .i64 m1 := by simpa using h1
      obtain ⟨l2, r2, q2, z2⟩ := bytes_trod ub uc cc t2
      obtain ⟨l3, r3, q3, z3⟩ := bytes_trod ub uc cc t3
      obtain ⟨l4, r4, q4, z4⟩ := bytes_trod ub uc cc t4
      obtain ⟨l5, r5, q5, z5⟩ := bytes_trod ub uc cc t5
      obtain ⟨l6, r6, q6, z6⟩ := bytes_trod ub uc cc t6
      have big : ∀ (l : List UInt8) (y : DataW H × List MemPlace), y ∈ [y0, y1, y2, y3, y4, y5, y6] → (l = [] ∨ ∃ es s, y.1 = .slice es s ∧ l.length = es.length) → l.length ≤ 16777216 := fun l y hy hz => by
        rcases hz with rfl | ⟨es, sl, hz, hle⟩
        · simp
        · have h1 := bulk_mem (List.mem_map_of_mem (f := (·.1)) hy)
          rw [hz, Rows.uptoBulk] at h1
          have h2 := bulk_len es
          omega
      refine ⟨m0, m1, l2, l3, l4, l5, l6, ⟨big l2 y2 (by simp) z2, big l3 y3 (by simp) z3, big l4 y4 (by simp) z4, big l5 y5 (by simp) z5, big l6 y6 (by simp) z6⟩, .st _ _ (fun j => [.int .i64 m0, .int .i64 m1, v2, v3, v4, v5, v6].getD j undef) rfl (fun j hj => ?_) (fun j hj => ?_)⟩
      · have : j = 0 ∨ j = 1 ∨ j = 2 ∨ j = 3 ∨ j = 4 ∨ j = 5 ∨ j = 6 := by simp at hj; omega
        rcases this with rfl | rfl | rfl | rfl | rfl | rfl | rfl
        · exact ⟨rfl, rfl⟩
        · exact ⟨rfl, rfl⟩
        · exact ⟨rfl, q2⟩
        · exact ⟨rfl, q3⟩
        · exact ⟨rfl, q4⟩
        · exact ⟨rfl, q5⟩
        · exact ⟨rfl, q6⟩
      · have : j = 0 ∨ j = 1 ∨ j = 2 ∨ j = 3 ∨ j = 4 ∨ j = 5 ∨ j = 6 := by simp at hj; omega
        rcases this with rfl | rfl | rfl | rfl | rfl | rfl | rfl
        · exact .val _
        · exact .val _
        · exact r2
        · exact r3
        · exact r4
        · exact r5
        · exact r6
end Go.Proofs.YtmpklnhmempmgaaGreatDoor
