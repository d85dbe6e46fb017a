/- The law on numbers and identifiers: what it calls. -/
import Derived.Test.YtelaolingpbnfaaDoorNRf
import Derived.Test.YtelaolingpbnfaaDoorNOw
import Derived.Test.YtelaolingpbnfaaDoorRCop
import Derived.Test.YtelaolingpbnfaaDoorNSpo
import Derived.Test.YtelaolingpbnfaaDoorWTw
namespace Go.Proofs.YtelaolingpbnfaaDoor
open Go.RowKit
set_option linter.unusedSimpArgs false
set_option maxRecDepth 100000
theorem spoil_three (dd : V) (a1 a2 a3 c1 c2 c3 : Int) (d1 d2 d3 : List UInt8) (k k1 k2 k3 nx : Nat) (hk : k ≠ k1 ∧ k ≠ k2 ∧ k ≠ k3 ∧ k1 ≠ k2 ∧ k1 ≠ k3 ∧ k2 ≠ k3) (h1 : d1.length ≤ 16777216) (h2 : d2.length ≤ 16777216) (h3 : d3.length ≤ 16777216) :
    FnH Tryd.prog JV 27 [.ro (.r k)] [(k, .row 36 (.sq 3 dd [.st [.val (.int .i64 a1), .ro (.r k1), .val (.int .i64 c1)], .st [.val (.int .i64 a2), .ro (.r k2), .val (.int .i64 c2)], .st [.val (.int .i64 a3), .ro (.r k3), .val (.int .i64 c3)]])), (k1, .row 5 (.by d1)), (k2, .row 5 (.by d2)), (k3, .row 5 (.by d3))] nx (.bb true) [] (nx + 1) := by
  obtain ⟨p1, p2, p3, p4, p5, p6⟩ := hk
  have q4 := Ne.symm p4
  refine spoil_list (ts := [⟨a1, d1, c1⟩, ⟨a2, d2, c2⟩, ⟨a3, d3, c3⟩]) (ks := fun i => [k1, k2, k3].getD i 0) (dd := dd) (L := [.st [.val (.int .i64 a1), .ro (.r k1), .val (.int .i64 c1)], .st [.val (.int .i64 a2), .ro (.r k2), .val (.int .i64 c2)], .st [.val (.int .i64 a3), .ro (.r k3), .val (.int .i64 c3)]]) (by simp only [Hroot, if_true]) rfl (fun i hi => ?_) (fun i hi => ?_) (fun i hi => ?_) (fun i j hi hj e => ?_) (by simp) (fun t ht => ?_)
  · match i, hi with
    | 0, _ => rfl
    | 1, _ => rfl
    | 2, _ => rfl
    | i + 3, h => simp at h; omega
  · match i, hi with
    | 0, _ => simp [Hroot, p1]
    | 1, _ => simp [Hroot, p2, p4]
    | 2, _ => simp [Hroot, p3, p5, p6]
    | i + 3, h => simp at h; omega
  · match i, hi with
    | 0, _ => exact Ne.symm p1
    | 1, _ => exact Ne.symm p2
    | 2, _ => exact Ne.symm p3
    | i + 3, h => simp at h; omega
  · simp at hi hj
    have : i = 0 ∨ i = 1 ∨ i = 2 := by omega
    have : j = 0 ∨ j = 1 ∨ j = 2 := by omega
    rcases ‹i = 0 ∨ i = 1 ∨ i = 2› with rfl | rfl | rfl <;> rcases ‹j = 0 ∨ j = 1 ∨ j = 2› with rfl | rfl | rfl <;> first | rfl | (exact absurd e p4) | (exact absurd e p5) | (exact absurd e p6) | (exact absurd e.symm p4) | (exact absurd e.symm p5) | (exact absurd e.symm p6)
  · simp only [List.mem_cons, List.not_mem_nil, or_false] at ht
    rcases ht with rfl | rfl | rfl
    · exact h1
    · exact h2
    · exact h3
def GNuf : FuncId → List V → Option (List Prop × Bool × V) := fun f args =>
  if f = 19 then match args with
    | [.st [.val (.int .i64 a), .by d, .val (.int .i64 k)]] => some ([d.length ≤ 1048576], false, .tu [.by (uintF ⟨a, d, k⟩).1, .bb (uintF ⟨a, d, k⟩).2])
    | _ => none
  else if f = 21 then match args with
    | [.st [.val (.int .i64 a), .by d, .val (.int .i64 k)]] => some ([d.length ≤ 1048576], false, .tu [.str (oidF ⟨a, d, k⟩).1, .bb (oidF ⟨a, d, k⟩).2])
    | _ => none
  else if f = 20 then match args with
    | [.st [.val (.int .i64 a), .by d, .val (.int .i64 k)]] => some ([d.length ≤ 1048576], false, .tu [.str (oidF ⟨a, d, k⟩).1, .bb (oidF ⟨a, d, k⟩).2])
    | _ => none
  else if f = 26 then match args with
    | [.by l] => some ([l.length ≤ 1048576], false, .st [.val (.int .i64 2), .by (ofuD l), .val (.int .i64 0)])
    | _ => none
  else if f = 24 then match args with
    | [.str s] => some ([s.length ≤ 1048576], false, .tu [.st [.val (.int .i64 (ooT s)), .by (ooD s), .val (.int .i64 0)], .bb (ooB s)])
    | _ => none
  else if f = 15 then match args with
    | [.by a, .by b] => some ([a.length ≤ 16777216], false, .bb (sameB a b))
    | _ => none
  else if f = 25 then match args with
    | [.st [.val (.int .i64 a), .by d, .val (.int .i64 k)], .st [.val (.int .i64 b), .by e, .val (.int .i64 m)]] => some ([d.length ≤ 16777216], false, .bb (sameT ⟨a, d, k⟩ ⟨b, e, m⟩))
    | _ => none
  else if f = 29 then match args with
    | [.by a, .by b] => some ([a = b ++ mk 90, b.length ≤ 1048576], false, .bb true)
    | _ => none
  else none
def GNuh : FuncId → List V → List (Nat × Ob) → Nat → Option CallH := fun f args h nx =>
  if f = 16 then match args with
    | [v] => match (fz h v).1 with
      | .sq sz dd L => some ⟨[dd = tlvD, sz = 3, L = tls (unT L), Tiny (unT L)], [true], [], .vw (.r nx) 3 0 (unT L).length, [(nx, .row 36 (.sq 3 tlvOD (twl (unT L) 20)))], nx + 1⟩
      | _ => none
    | _ => none
  else if f = 17 then match args with
    | [.by l] => some ⟨[l.length ≤ 1048576], [], [], .ro (.r nx), [(nx, .row 5 (.by (l ++ mk 90)))], nx + 1⟩
    | _ => none
  else if f = 31 then match args with
    | [v] => match (fz h v).1 with
      | .by l => some ⟨[l.length ≤ 1048576], [true], [], .ro (.r nx), [(nx, .row 5 (.by l))], nx + 1⟩
      | _ => none
    | _ => none
  else if f = 18 then match args with
    | [v] => match (fz h v).1 with
      | .st [.val (.int .i64 a), .by d, .val (.int .i64 k)] => some ⟨[d.length ≤ 1048576], [true], [], .tu [.ro (.r nx), .bb (uintF ⟨a, d, k⟩).2], [(nx, .row 5 (.by (uintF ⟨a, d, k⟩).1))], nx + 1⟩
      | _ => none
    | _ => none
  else if f = 22 then match args with
    | [v] => match (fz h v).1 with
      | .by l => some ⟨[l.length ≤ 1048576], [true], [], .st [.val (.int .i64 2), .ro (.r (nx + 1)), .val (.int .i64 0)], [(nx + 1, .row 5 (.by (ofuD l)))], nx + 2⟩
      | _ => none
    | _ => none
  else if f = 23 then match args with
    | [.str s] => some ⟨[s.length ≤ 1048576], [], [], .tu [.st [.val (.int .i64 (ooT s)), .ro (.r (nx + 1)), .val (.int .i64 0)], .bb (ooB s)], [(nx + 1, .row 5 (.by (ooD s)))], nx + 2⟩
    | _ => none
  else if f = 27 then match args with
    | [.ro (.r k)] => match Hroot h k with
      | some (.row _ (.sq 3 dd [.st [.val (.int .i64 a1), .ro (.r k1), .val (.int .i64 c1)], .st [.val (.int .i64 a2), .ro (.r k2), .val (.int .i64 c2)], .st [.val (.int .i64 a3), .ro (.r k3), .val (.int .i64 c3)]])) => match Hroot h k1, Hroot h k2, Hroot h k3 with
        | some (.row _ (.by d1)), some (.row _ (.by d2)), some (.row _ (.by d3)) => some ⟨[k ≠ k1 ∧ k ≠ k2 ∧ k ≠ k3 ∧ k1 ≠ k2 ∧ k1 ≠ k3 ∧ k2 ≠ k3, d1.length ≤ 16777216, d2.length ≤ 16777216, d3.length ≤ 16777216], [false],
            [(k, .row 36 (.sq 3 dd [.st [.val (.int .i64 a1), .ro (.r k1), .val (.int .i64 c1)], .st [.val (.int .i64 a2), .ro (.r k2), .val (.int .i64 c2)], .st [.val (.int .i64 a3), .ro (.r k3), .val (.int .i64 c3)]])), (k1, .row 5 (.by d1)), (k2, .row 5 (.by d2)), (k3, .row 5 (.by d3))], .bb true, [], nx + 1⟩
        | _, _, _ => none
      | _ => none
    | _ => none
  else if f = 28 then match args with
    | [.vw (.r k) 3 0 n, v] => match (fz h v).1 with
      | .sq sz dd L => some ⟨[dd = tlvD, sz = 3, L = tls (unT L), Tiny (unT L), n = (unT L).length], [false, true], [(k, .row 36 (.sq 3 tlvOD (twl (unT L) 20)))], .bb true, [(k, .row 36 (.sq 3 tlvOD (twl (unT L) 20)))], nx⟩
      | _ => none
    | _ => none
  else if f = 30 then match args with
    | [.vw (.r k) 1 0 n] => match Hroot h k with
      | some (.row _ (.by X)) => some ⟨[n ≤ X.length, X.length ≤ 16777216], [false], [(k, .row 5 (.by X))], .tu [], [(k, .row 5 (.by (turnX X n)))], nx⟩
      | _ => none
    | _ => none
  else none
def GNu : Sig := ⟨JV, df, GNuf, GNuh, 0⟩
theorem GNuf_ok (f : FuncId) (args : List V) (l : List Prop) (fr : Bool) (r : V) (h : GNuf f args = some (l, fr, r)) (hl : AllP l) : Fn Tryd.prog JV f fr args r := by
  unfold GNuf at h
  split at h
  · rename_i hf; subst hf
    split at h
    · rename_i a d k
      obtain ⟨rfl, rfl, rfl⟩ := some_tri h
      have h1 : d.length ≤ 1048576 := hl _ (by simp)
      exact rUint_fn JV ⟨a, d, k⟩ (by simp only; omega)
    · exact absurd h (by simp)
  · split at h
    · rename_i hf; subst hf
      split at h
      · rename_i a d k
        obtain ⟨rfl, rfl, rfl⟩ := some_tri h
        have h1 : d.length ≤ 1048576 := hl _ (by simp)
        exact rOid_fn JV ⟨a, d, k⟩ (by simp only; omega)
      · exact absurd h (by simp)
    · split at h
      · rename_i hf; subst hf
        split at h
        · rename_i a d k
          obtain ⟨rfl, rfl, rfl⟩ := some_tri h
          have h1 : d.length ≤ 1048576 := hl _ (by simp)
          exact toJV (Oid_fn ⟨a, d, k⟩ (by simp only; omega))
        · exact absurd h (by simp)
      · split at h
        · rename_i hf; subst hf
          split at h
          · rename_i b
            obtain ⟨rfl, rfl, rfl⟩ := some_tri h
            have h1 : b.length ≤ 1048576 := hl _ (by simp)
            exact rOfUint_fn JV b (by omega)
          · exact absurd h (by simp)
        · split at h
          · rename_i hf; subst hf
            split at h
            · rename_i s
              obtain ⟨rfl, rfl, rfl⟩ := some_tri h
              have h1 : s.length ≤ 1048576 := hl _ (by simp)
              exact rOfOid_fn JV s (by omega)
            · exact absurd h (by simp)
          · split at h
            · rename_i hf; subst hf
              split at h
              · rename_i a b
                obtain ⟨rfl, rfl, rfl⟩ := some_tri h
                have h1 : a.length ≤ 16777216 := hl _ (by simp)
                exact sameBytes_fn JV _ _ (by omega)
              · exact absurd h (by simp)
            · split at h
              · rename_i hf; subst hf
                split at h
                · rename_i a d k b e m
                  obtain ⟨rfl, rfl, rfl⟩ := some_tri h
                  have h1 : d.length ≤ 16777216 := hl _ (by simp)
                  exact sameTlv_fn JV ⟨a, d, k⟩ ⟨b, e, m⟩ (by simp only; omega)
                · exact absurd h (by simp)
              · split at h
                · rename_i hf; subst hf
                  split at h
                  · rename_i a b
                    obtain ⟨rfl, rfl, rfl⟩ := some_tri h
                    have h1 : a = b ++ mk 90 := hl _ (by simp)
                    have h2 : b.length ≤ 1048576 := hl _ (by simp)
                    subst h1
                    exact whole_fn JV b (by omega)
                  · exact absurd h (by simp)
                · exact absurd h (by simp)
theorem GNu_ok : SigOk Tryd.prog GNu := by
  refine ⟨GNuf_ok, fun f args h nx c hc hl => ?_⟩
  change GNuh f args h nx = some c at hc
  unfold GNuh at hc
  split at hc
  · rename_i hf; subst hf
    split at hc
    · rename_i v
      split at hc
      · rename_i sz dd L hv
        obtain rfl := Option.some.inj hc
        have h1 : dd = tlvD := hl _ (by simp)
        have h2 : sz = 3 := hl _ (by simp)
        have h3 : L = tls (unT L) := hl _ (by simp)
        subst h1 h2
        show FnH _ _ _ [(fz h v).1] _ _ _ _ _
        have := twin_own JV (unT L) nx (hl _ (by simp))
        rw [tlsV, ← h3, ← hv] at this
        exact this
      · exact absurd hc (by simp)
    · exact absurd hc (by simp)
  · split at hc
    · rename_i hf; subst hf
      split at hc
      · rename_i l
        obtain rfl := Option.some.inj hc
        have h1 : l.length ≤ 1048576 := hl _ (by simp)
        exact marked_own JV l nx (by omega)
      · exact absurd hc (by simp)
    · split at hc
      · rename_i hf; subst hf
        split at hc
        · rename_i v
          split at hc
          · rename_i l hv
            obtain rfl := Option.some.inj hc
            have h1 : l.length ≤ 1048576 := hl _ (by simp)
            show FnH _ _ _ [(fz h v).1] _ _ _ _ _
            rw [hv]
            exact copied_own JV l nx (by omega)
          · exact absurd hc (by simp)
        · exact absurd hc (by simp)
      · split at hc
        · rename_i hf; subst hf
          split at hc
          · rename_i v
            split at hc
            · rename_i a d k hv
              obtain rfl := Option.some.inj hc
              have h1 : d.length ≤ 1048576 := hl _ (by simp)
              show FnH _ _ _ [(fz h v).1] _ _ _ _ _
              rw [hv]
              exact Uint_own JV ⟨a, d, k⟩ nx (by simp only; omega)
            · exact absurd hc (by simp)
          · exact absurd hc (by simp)
        · split at hc
          · rename_i hf; subst hf
            split at hc
            · rename_i v
              split at hc
              · rename_i l hv
                obtain rfl := Option.some.inj hc
                have h1 : l.length ≤ 1048576 := hl _ (by simp)
                show FnH _ _ _ [(fz h v).1] _ _ _ _ _
                rw [hv]
                exact OfUint_at JV l nx (by omega)
              · exact absurd hc (by simp)
            · exact absurd hc (by simp)
          · split at hc
            · rename_i hf; subst hf
              split at hc
              · rename_i s
                obtain rfl := Option.some.inj hc
                have h1 : s.length ≤ 1048576 := hl _ (by simp)
                exact OfOid_at s nx (by omega)
              · exact absurd hc (by simp)
            · split at hc
              · rename_i hf; subst hf
                split at hc
                · rename_i k
                  split at hc
                  · rename_i ty dd a1 k1 c1 a2 k2 c2 a3 k3 c3 hk
                    split at hc
                    · rename_i ty1 d1 ty2 d2 ty3 d3 g1 g2 g3
                      obtain rfl := Option.some.inj hc
                      exact spoil_three dd a1 a2 a3 c1 c2 c3 d1 d2 d3 k k1 k2 k3 nx (hl _ (by simp)) (hl _ (by simp)) (hl _ (by simp)) (hl _ (by simp))
                    · exact absurd hc (by simp)
                  · exact absurd hc (by simp)
                · exact absurd hc (by simp)
              · split at hc
                · rename_i hf; subst hf
                  split at hc
                  · rename_i k n v
                    split at hc
                    · rename_i sz dd L hv
                      obtain rfl := Option.some.inj hc
                      have h1 : dd = tlvD := hl _ (by simp)
                      have h2 : sz = 3 := hl _ (by simp)
                      have h3 : L = tls (unT L) := hl _ (by simp)
                      have h5 : n = (unT L).length := hl _ (by simp)
                      subst h1 h2 h5
                      show FnH _ _ _ [.vw (.r k) 3 0 (unT L).length, (fz h v).1] _ _ _ _ _
                      have := still_own JV (unT L) k nx (hl _ (by simp))
                      rw [tlsV, ← h3, ← hv] at this
                      exact this
                    · exact absurd hc (by simp)
                  · exact absurd hc (by simp)
                · split at hc
                  · rename_i hf; subst hf
                    split at hc
                    · rename_i k n
                      split at hc
                      · rename_i ty X hk
                        obtain rfl := Option.some.inj hc
                        have h1 : n ≤ X.length := hl _ (by simp)
                        have h2 : X.length ≤ 16777216 := hl _ (by simp)
                        exact turned_own JV X n k nx h1 (by omega)
                      · exact absurd hc (by simp)
                    · exact absurd hc (by simp)
                  · exact absurd hc (by simp)
end Go.Proofs.YtelaolingpbnfaaDoor
