/- What came in reads as two times; what the program's text lays: the table of algorithms. -/
import Derived.Test.YtmafmdnmoccohaaGreatDoorKLaw
import Derived.Test.YtmafmdnmoccohaaGreatDoorArg
import Derived.Test.YtmafmdnmoccohaaGreatDoorRows
import Derived.Deep.Strs
import Derived.Lib.LaidU8
namespace Go.Proofs.YtmafmdnmoccohaaGreatDoor
open Go.ChangeShapes Go.WideShapes Go.ChangeAt Go.RowKit
theorem arg_time {H : Type} {enc : TypeId × Value → H} {P : Program} {w : World} {base b0 : Nat} {sp : Nat → Bool} {hd : Bool} {t i : TypeId} {f0 f1 f2 f3 f4 f5 : Field} {v : Value} {d : DataW H} {ps : List MemPlace}
    (hs : P.underlying t = some (.struct #[f0, f1, f2, f3, f4, f5])) (ce : P.cellsOf t = 6) (o0 : f0.offset = 0) (o1 : f1.offset = 1) (o2 : f2.offset = 2) (o3 : f3.offset = 3) (o4 : f4.offset = 4) (o5 : f5.offset = 5)
    (e0 : f0.type = i) (e1 : f1.type = i) (e2 : f2.type = i) (e3 : f3.type = i) (e4 : f4.type = i) (e5 : f5.type = i) (ci : P.cellsOf i = 1) (ui : P.underlying i = some (.int .i64))
    (hval : Value.okWide P w .any b0 t v) (h : DataW.Trod enc P w base sp hd t v d ps) : ∃ a : Tm, Rep w (.bare fun _ => False) (timV a) v := by
  obtain ⟨cs, rfl, hcs⟩ := okWide_struct hs hval
  obtain ⟨fuel, hf⟩ := h
  obtain ⟨xs, n, _, hx, hl, hlen, hfd⟩ := DataW.trod_struct hs hf
  rw [ce] at hcs
  match cs, hcs with
  | ⟨[v0, v1, v2, v3, v4, v5]⟩, _ =>
    have hlen : xs.length = 6 := by simpa using hlen
    match xs, hlen with
    | [y0, y1, y2, y3, y4, y5], _ =>
      have t0 := hfd 0 f0 rfl
      have t1 := hfd 1 f1 rfl
      have t2 := hfd 2 f2 rfl
      have t3 := hfd 3 f3 rfl
      have t4 := hfd 4 f4 rfl
      have t5 := hfd 5 f5 rfl
      simp only [Value.cells, o0, o1, o2, o3, o4, o5, e0, e1, e2, e3, e4, e5, ci, List.drop_zero, List.drop_succ_cons, List.take_succ_cons, List.take_zero, List.getElem?_cons_zero, List.getElem?_cons_succ] at t0 t1 t2 t3 t4 t5
      obtain ⟨m0, h0, _⟩ := DataW.trod_int ui t0
      obtain ⟨m1, h1, _⟩ := DataW.trod_int ui t1
      obtain ⟨m2, h2, _⟩ := DataW.trod_int ui t2
      obtain ⟨m3, h3, _⟩ := DataW.trod_int ui t3
      obtain ⟨m4, h4, _⟩ := DataW.trod_int ui t4
      obtain ⟨m5, h5, _⟩ := DataW.trod_int ui t5
      obtain rfl : v0 = .int .i64 m0 := by simpa using h0
      obtain rfl : v1 = .int .i64 m1 := by simpa using h1
      obtain rfl : v2 = .int .i64 m2 := by simpa using h2
      obtain rfl : v3 = .int .i64 m3 := by simpa using h3
      obtain rfl : v4 = .int .i64 m4 := by simpa using h4
      obtain rfl : v5 = .int .i64 m5 := by simpa using h5
      refine ⟨⟨m0, m1, m2, m3, m4, m5⟩, .st _ _ (fun j => .int .i64 ([m0, m1, m2, m3, m4, m5].getD j 0)) rfl (fun j hj => ?_) (fun j hj => ?_)⟩
      · have : j = 0 ∨ j = 1 ∨ j = 2 ∨ j = 3 ∨ j = 4 ∨ j = 5 := by simp at hj; omega
        rcases this with rfl | rfl | rfl | rfl | rfl | rfl <;> exact ⟨rfl, rfl⟩
      · have : j = 0 ∨ j = 1 ∨ j = 2 ∨ j = 3 ∨ j = 4 ∨ j = 5 := by simp at hj; omega
        rcases this with rfl | rfl | rfl | rfl | rfl | rfl <;> exact .val _
theorem str_bytes {s : ByteArray} {l : List UInt8} (h : s.data.toList = l) : s = ⟨l.toArray⟩ := by subst h; rfl
theorem inv_of_alg {P : Program} {W : World} {g : Nat} {t e : TypeId} {f0 f1 f2 : Field} (h : Lib.VarReads P W "signet/x509.algorithms" (Rows.laid_signet_x509_algorithms : DataW Unit)) (hg : P.globalNamed "signet/x509.algorithms" = some g) (hgg : g = 0) (hty : (P.globals[g]?).map (·.type) = some t)
    (ht : P.underlying t = some (.slice e)) (hs : P.underlying e = some (.struct #[f0, f1, f2])) (ce : P.cellsOf e = 3) (o0 : f0.offset = 0) (o1 : f1.offset = 1) (o2 : f2.offset = 2) (c0 : P.cellsOf f0.type = 1) (c1 : P.cellsOf f1.type = 1) (c2 : P.cellsOf f2.type = 1)
    (u0 : P.underlying f0.type = some .string) (u1 : P.underlying f1.type = some (.int .i64)) (u2 : P.underlying f2.type = some .bool) : JC.I W fun _ => False := by
  obtain ⟨g', t', cs, fuel, p, hg', hty', hvar, hd⟩ := h
  obtain rfl := Option.some.inj (hg.symm.trans hg')
  obtain rfl := Option.some.inj (hty.symm.trans hty')
  subst hgg
  have hc0 := World.var?_cell hg' hvar 0
  rw [← Array.getElem?_toList] at hc0
  rcases Go.Deep.open_slice ht hd with ⟨_, hx⟩ | ⟨x, l, c, m, n, D, Pl, hcs, _, hl, hm, hmm, hx, hel⟩
  · cases (Prod.mk.inj hx).1
  · rw [hcs] at hc0
    have hc0 : W.cell? ⟨0, 0, none⟩ = some (.slice (some x) l c) := hc0
    have hdat := (Prod.mk.inj hx).1
    unfold Rows.laid_signet_x509_algorithms at hdat
    injection hdat with hel2 _
    have hl6 : l = 6 := by have := congrArg List.length hel2; simpa using this.symm
    subst hl6
    have hD : ∀ i, i < 6 → ∀ y, ([.agg [.lit (.string [49, 46, 50, 46, 56, 52, 48, 46, 49, 48, 48, 52, 53, 46, 52, 46, 51, 46, 50]), .lit (.int .i64 10), .lit (.bool false)], .agg [.lit (.string [49, 46, 50, 46, 56, 52, 48, 46, 49, 48, 48, 52, 53, 46, 52, 46, 51, 46, 51]), .lit (.int .i64 11), .lit (.bool false)], .agg [.lit (.string [49, 46, 51, 46, 49, 48, 49, 46, 49, 49, 50]), .lit (.int .i64 12), .lit (.bool false)], .agg [.lit (.string [49, 46, 50, 46, 56, 52, 48, 46, 49, 49, 51, 53, 52, 57, 46, 49, 46, 49, 46, 49, 49]), .lit (.int .i64 4), .lit (.bool true)], .agg [.lit (.string [49, 46, 50, 46, 56, 52, 48, 46, 49, 49, 51, 53, 52, 57, 46, 49, 46, 49, 46, 49, 50]), .lit (.int .i64 5), .lit (.bool true)], .agg [.lit (.string [49, 46, 50, 46, 56, 52, 48, 46, 49, 49, 51, 53, 52, 57, 46, 49, 46, 49, 46, 49, 51]), .lit (.int .i64 6), .lit (.bool true)]] : List (DataW Unit))[i]? = some y → D i = y := fun i hi y hy => by
      rw [hel2, List.getElem?_map, List.getElem?_range hi] at hy
      simpa using hy
    obtain ⟨b, off, spot⟩ := x
    have hm6 : 6 ≤ m := by rw [hmm]; split <;> omega
    have hsp : spot = none := by
      obtain ⟨cs', h1, h2⟩ := hel 0 (by omega)
      rw [ce] at h1
      obtain ⟨_, hlen, hcell⟩ := World.cells?_some h1
      have g0 := hcell 0 (by omega)
      obtain ⟨v, hv⟩ : ∃ v, cs'[0]? = some v := ⟨_, List.getElem?_eq_getElem (show 0 < cs'.length by omega)⟩
      have g0 : W.cell? (((⟨b, off, spot⟩ : Addr).add (0 * 3)).add 0) = some v := by
        first
          | exact g0.trans hv
          | (rw [g0]; simpa using hv)
      simpa [Addr.add] using World.cell?_spot g0
    subst hsp
    have each : ∀ i, i < 6 → ∃ s : ByteArray, ∃ k : Int, ∃ q : Bool, W.cell? ⟨b, off + i * 3, none⟩ = some (.string s) ∧ W.cell? ⟨b, off + (i * 3 + 1), none⟩ = some (.int .i64 k) ∧ W.cell? ⟨b, off + (i * 3 + 2), none⟩ = some (.bool q) ∧ D i = .agg [.lit (.string s.data.toList), .lit (.int .i64 k), .lit (.bool q)] := fun i hi => by
      obtain ⟨cs', h1, h2⟩ := hel i (by omega)
      rw [ce] at h1
      obtain ⟨_, hlen, hcell⟩ := World.cells?_some h1
      obtain ⟨y0, y1, y2, n', hDi, hl3, t0, t1, t2⟩ := Go.Deep.trod_struct3 hs h2
      match cs', hlen with
      | [v0, v1, v2], _ =>
        simp only [o0, o1, o2, c0, c1, c2, List.drop_zero, List.drop_succ_cons, List.take_succ_cons, List.take_zero] at t0 t1 t2
        obtain ⟨s, q0, r0, _⟩ := DataW.trod_string u0 t0
        obtain ⟨k, q1, r1, _⟩ := DataW.trod_int u1 t1
        obtain ⟨q, q2, r2⟩ := DataW.trod_bool u2 t2
        obtain rfl : v0 = .string s := by simpa using q0
        obtain rfl : v1 = .int .i64 k := by simpa using q1
        obtain rfl : v2 = .bool q := by simpa using q2
        have g0 := hcell 0 (by omega)
        have g1 := hcell 1 (by omega)
        have g2 := hcell 2 (by omega)
        rw [Go.Deep.add_add, addr_add] at g0 g1 g2
        refine ⟨s, k, q, by simpa using g0, by simpa using g1, by simpa using g2, ?_⟩
        have := (Prod.mk.inj hDi).1
        rw [this, r0, r1, r2]
    refine ⟨b, off, c, hc0, hl, ?_, fun h => h, cell_lt hc0, fun h => h, fun i hi j hj => ?_⟩
    · obtain ⟨s, _, _, h0, _⟩ := each 0 (by omega)
      exact cell_lt h0
    · obtain ⟨s, k, q, h0, h1, h2, h3⟩ := each i hi
      have hD' := fun y hy => (hD i hi y hy).symm.trans h3
      have hi' : i = 0 ∨ i = 1 ∨ i = 2 ∨ i = 3 ∨ i = 4 ∨ i = 5 := by omega
      have hj' : j = 0 ∨ j = 1 ∨ j = 2 := by omega
      rcases hi' with rfl | rfl | rfl | rfl | rfl | rfl
      all_goals
        have hq := hD' _ rfl
        simp only [DataW.agg.injEq, List.cons.injEq, DataW.lit.injEq, Lit.string.injEq, Lit.int.injEq, Lit.bool.injEq, true_and, and_true] at hq
        obtain ⟨q1, q2, q3⟩ := hq
        rcases hj' with rfl | rfl | rfl
        · rw [show ∀ n, off + (n * 3 + 0) = off + n * 3 from fun _ => rfl, h0, str_bytes q1.symm]; rfl
        · rw [h1, ← q2]; rfl
        · rw [h2, ← q3]; rfl
end Go.Proofs.YtmafmdnmoccohaaGreatDoor
