/- What a list of elements of small bulk that came in reads as. -/
import Derived.Test.YtelaolingpbnfaaArg2
import Derived.Test.YtelaolingpbnfaaWBeh
import Derived.Deep.Strs
namespace Go.Proofs.Ytelaolingpbnfaa
open Go.ChangeShapes Go.WideShapes Go.ChangeAt Go.RowKit
/-- A cell that reads as a slice of bytes. -/
theorem bytes_trod {H : Type} {enc : TypeId × Value → H} {P : Program} {w : World} {base : Nat} {sp : Nat → Bool} {hd : Bool} {t e : TypeId} {v : Value} {y : DataW H × List MemPlace} {fuel : Nat}
    (ht : P.underlying t = some (.slice e)) (he : P.underlying e = some (.int .u8)) (hc : P.cellsOf e = 1) (hf : DataW.trod enc P w base sp hd fuel t [v] = some y) :
    ∃ l : List UInt8, Rep w (.bare fun _ => False) (.by l) v ∧ v.oneCell' = true ∧ (l = [] ∨ ∃ es s, y.1 = .slice es s ∧ l.length = es.length) := by
  rcases open_ints ht he hc hf with ⟨hcs, _⟩ | ⟨x, len0, cap0, zs, hcs, _, hl, hm, hz, hx, hcell, hwz⟩
  · obtain rfl : v = .slice none 0 0 := by simpa using hcs
    exact ⟨[], .sl _ 1 0 _ none 0 0 0 (fun _ _ => undef) rfl (Nat.le_refl _) (fun h => by omega) (fun i hi => by omega) (fun i hi => by omega), rfl, .inl rfl⟩
  · obtain rfl : v = .slice (some x) len0 cap0 := by simpa using hcs
    have hlz : len0 ≤ zs.length := by rw [hz]; split <;> omega
    have hlen : ((zs.take len0).map u8).length = len0 := by simp; omega
    have hlen2 : (zs.take len0).length = len0 := by simp; omega
    refine ⟨(zs.take len0).map u8, ?_, rfl, .inr ⟨lits .u8 (zs.take len0), lits .u8 (zs.drop len0), by rw [hx], by rw [hlen]; unfold lits; rw [List.length_map, hlen2]⟩⟩
    have hw : ∀ i, i < len0 → 0 ≤ zs.getD i 0 ∧ zs.getD i 0 < 256 := fun i hi => by
      have hmem : zs.getD i 0 ∈ zs := by rw [List.getD_eq_getElem?_getD, List.getElem?_eq_getElem (by omega)]; exact List.getElem_mem _
      have h1 := hwz _ hmem
      simp only [Lit.wf, Bool.and_eq_true, decide_eq_true_eq] at h1
      have e1 : IntKind.u8.min = 0 := rfl
      have e2 : IntKind.u8.max = 255 := rfl
      omega
    have hb2 : ∀ i, i < len0 → byteAt ((zs.take len0).map u8) i = zs.getD i 0 := fun i hi => by
      obtain ⟨h1, h2⟩ := hw i hi
      unfold byteAt
      rw [List.getD_eq_getElem?_getD, List.getElem?_map, List.getElem?_take, if_pos hi, List.getElem?_eq_getElem (by omega)]
      rw [List.getD_eq_getElem?_getD, List.getElem?_eq_getElem (by omega)] at h1 h2 ⊢
      exact u8_toNat _ h1 h2
    by_cases h0 : len0 = 0
    · subst h0
      exact .sl _ 1 0 (fun i => .val (.int .u8 (byteAt ((zs.take 0).map u8) i))) (some x) cap0 0 0 (fun _ _ => undef) rfl hl (fun h => by omega) (fun i hi => by omega) (fun i hi => by omega)
    · obtain ⟨b, off, spot⟩ := x
      have hc0 := hcell 0 (by omega)
      have hspot : spot = none := by simpa [Addr.add] using World.cell?_spot hc0
      subst hspot
      have hcl : ∀ i, i < len0 → w.cell? ⟨b, off + i, none⟩ = some (.int .u8 (zs.getD i 0)) := fun i hi => by
        have := hcell i (by omega)
        rwa [addr_add] at this
      refine .sl _ 1 len0 (fun i => .val (.int .u8 (byteAt ((zs.take len0).map u8) i))) (some ⟨b, off, none⟩) cap0 b off (fun i _ => .int .u8 (zs.getD i 0)) ?_ hl (fun _ => ⟨rfl, cell_lt (hcl 0 (by omega)), fun h => h⟩) (fun i hi j hj => ?_) (fun i hi j hj => ?_)
      · simp only [V.elems, hlen]
      · obtain rfl : j = 0 := by omega
        rw [Nat.mul_one, Nat.add_zero]
        exact ⟨hcl i hi, rfl⟩
      · obtain rfl : j = 0 := by omega
        rw [hb2 i hi]
        exact .val _
theorem bulk_mem {H : Type} : ∀ {l : List (DataW H)} {d : DataW H}, d ∈ l → Rows.uptoBulk d ≤ Rows.uptoBulkAll l
  | x :: r, d, h => by
    simp only [Rows.uptoBulkAll]
    rcases List.mem_cons.1 h with rfl | h
    · omega
    · have := bulk_mem h; omega
theorem int_i64 {n : Int} (h : (Lit.int .i64 n).wf = true) : I64 n := by
  simp only [Lit.wf, Bool.and_eq_true, decide_eq_true_eq] at h
  have e1 : IntKind.i64.min = -9223372036854775808 := rfl
  have e2 : IntKind.i64.max = 9223372036854775807 := rfl
  exact ⟨by omega, by omega⟩
theorem arg_tlvs {H : Type} {enc : TypeId × Value → H} {P : Program} {w : World} {base b0 : Nat} {sp : Nat → Bool} {hd : Bool} {t e b : TypeId} {f0 f1 f2 : Field} {v : Value} {d : DataW H} {ps : List MemPlace}
    (ht : P.underlying t = some (.slice e)) (hs : P.underlying e = some (.struct #[f0, f1, f2])) (ce : P.cellsOf e = 3) (o0 : f0.offset = 0) (o1 : f1.offset = 1) (o2 : f2.offset = 2) (c0 : P.cellsOf f0.type = 1) (c1 : P.cellsOf f1.type = 1) (c2 : P.cellsOf f2.type = 1)
    (u0 : P.underlying f0.type = some (.int .i64)) (u1 : P.underlying f1.type = some (.slice b)) (u2 : P.underlying f2.type = some (.int .i64)) (ub : P.underlying b = some (.int .u8)) (cb : P.cellsOf b = 1)
    (hval : Value.okWide P w .any b0 t v) (h : DataW.Trod enc P w base sp hd t v d ps)
    (hbk : Rows.uptoBulk d ≤ 1048576) : ∃ ts : List Tlv, Tiny ts ∧ (∀ x ∈ ts, I64 x.kids) ∧ Rep w (.bare fun _ => False) (tlsV ts) v := by
  obtain ⟨a0, len0, cap0, rfl⟩ := okWide_slice ht hval
  obtain ⟨fuel, hf⟩ := h
  rcases Go.Deep.open_slice ht hf with ⟨hcs, _⟩ | ⟨x, l, c, m, n, D, Pl, hcs, _, hl, hm, hmm, hx, hel⟩
  · simp [Value.cells] at hcs
    obtain ⟨rfl, rfl, rfl⟩ := hcs
    refine ⟨[], ⟨by simp, by simp⟩, by simp, .sl _ 3 0 (fun i => (tls []).getD i tlvD) none 0 0 0 (fun _ _ => undef) rfl (Nat.le_refl _) (fun h => by omega) (fun i hi => by omega) (fun i hi => by omega)⟩
  · simp [Value.cells] at hcs
    obtain ⟨rfl, rfl, rfl⟩ := hcs
    have hlm : len0 ≤ m := by rw [hmm]; split <;> omega
    obtain ⟨hd1, _⟩ := Prod.mk.inj hx
    subst hd1
    have hba : Rows.uptoBulkAll ((List.range len0).map D) ≤ 1048576 := by
      have : Rows.uptoBulkAll ((List.range len0).map D) ≤ Rows.uptoBulk (DataW.slice ((List.range len0).map D) ((List.range (m - len0)).map fun i => D (len0 + i))) := by
        rw [Rows.uptoBulk]; omega
      omega
    have hsl := bulk_len ((List.range len0).map D)
    simp only [List.length_map, List.length_range] at hsl
    have each : ∀ i, i < len0 → ∃ q : Tlv × Value, (w.cell? (x.add (i * 3)) = some (.int .i64 q.1.tag) ∧ w.cell? (x.add (i * 3 + 1)) = some q.2 ∧ w.cell? (x.add (i * 3 + 2)) = some (.int .i64 q.1.kids)) ∧
        Rep w (.bare fun _ => False) (.by q.1.data) q.2 ∧ q.2.oneCell' = true ∧ q.1.data.length ≤ 1048576 ∧ I64 q.1.kids := fun i hi => by
      obtain ⟨cs', h1, h2⟩ := hel i (by omega)
      rw [ce] at h1
      obtain ⟨_, hlen, hcell⟩ := World.cells?_some h1
      obtain ⟨y0, y1, y2, n', hD, hl3, t0, t1, t2⟩ := Go.Deep.trod_struct3 hs h2
      match cs', hlen with
      | [v0, v1, v2], _ =>
        simp only [o0, o1, o2, c0, c1, c2, List.drop_zero, List.drop_succ_cons, List.take_succ_cons, List.take_zero] at t0 t1 t2
        obtain ⟨m0, e0, _, w0⟩ := DataW.trod_int u0 t0
        obtain ⟨m2, e2, _, w2⟩ := DataW.trod_int u2 t2
        obtain rfl : v0 = .int .i64 m0 := by simpa using e0
        obtain rfl : v2 = .int .i64 m2 := by simpa using e2
        obtain ⟨lb, r1, r2, r3⟩ := bytes_trod u1 ub cb t1
        have g0 := hcell 0 (by omega)
        have g1 := hcell 1 (by omega)
        have g2 := hcell 2 (by omega)
        rw [Go.Deep.add_add] at g0 g1 g2
        refine ⟨(⟨m0, lb, m2⟩, v1), ⟨by simpa using g0, by simpa using g1, by simpa using g2⟩, r1, r2, ?_, int_i64 w2⟩
        rcases r3 with rfl | ⟨es, s, hy, hle⟩
        · simp
        · obtain ⟨hDi, _⟩ := Prod.mk.inj hD
          have h1 := bulk_mem (d := D i) (l := (List.range len0).map D) (List.mem_map.2 ⟨i, List.mem_range.2 hi, rfl⟩)
          have h2 : Rows.uptoBulk y1.1 ≤ Rows.uptoBulkAll [y0.1, y1.1, y2.1] := bulk_mem (by simp)
          have h4 : Rows.uptoBulkAll [y0.1, y1.1, y2.1] ≤ Rows.uptoBulk (D i) := by rw [hDi, Rows.uptoBulk]; omega
          have h3 := bulk_slice es s
          rw [hy] at h2 h4
          simp only
          omega
    obtain ⟨q, hq⟩ := Go.Deep.choose_lt each
    have hts : ∀ i, i < len0 → ((List.range len0).map fun i => (q i).1).getD i default = (q i).1 := fun i hi => by
      rw [List.getD_eq_getElem?_getD, List.getElem?_map, List.getElem?_range hi]; rfl
    refine ⟨(List.range len0).map fun i => (q i).1, ⟨by simp; omega, fun t ht => ?_⟩, fun t ht => ?_, ?_⟩
    · obtain ⟨i, hi, rfl⟩ := List.mem_map.1 ht
      have := (hq i (List.mem_range.1 hi)).2.2.2.1
      omega
    · obtain ⟨i, hi, rfl⟩ := List.mem_map.1 ht
      exact (hq i (List.mem_range.1 hi)).2.2.2.2
    · have helm : (tlsV ((List.range len0).map fun i => (q i).1)).elems = some (3, len0, fun i => (tls ((List.range len0).map fun i => (q i).1)).getD i tlvD) := by
        simp [tlsV, V.elems, tls]
      by_cases h0 : len0 = 0
      · subst h0
        exact .sl _ 3 0 _ (some x) cap0 0 0 (fun _ _ => undef) helm hl (fun h => by omega) (fun i hi => by omega) (fun i hi => by omega)
      · obtain ⟨bk, off, spot⟩ := x
        have hc0 := (hq 0 (by omega)).1.1
        have hspot : spot = none := by simpa [Addr.add] using World.cell?_spot hc0
        subst hspot
        refine .sl _ 3 len0 _ (some ⟨bk, off, none⟩) cap0 bk off (fun i j => if j = 0 then .int .i64 (q i).1.tag else if j = 1 then (q i).2 else .int .i64 (q i).1.kids) helm hl (fun _ => ⟨rfl, by have := cell_lt hc0; rwa [addr_add] at this, fun h => h⟩) (fun i hi j hj => ?_) (fun i hi j hj => ?_)
        · obtain ⟨g0, g1, g2⟩ := (hq i hi).1
          rw [addr_add] at g0 g1 g2
          have : j = 0 ∨ j = 1 ∨ j = 2 := by omega
          rcases this with rfl | rfl | rfl
          · exact ⟨g0, rfl⟩
          · exact ⟨g1, (hq i hi).2.2.1⟩
          · exact ⟨g2, rfl⟩
        · have e := tls_get ((List.range len0).map fun i => (q i).1) i
          rw [hts i hi] at e
          have e : (tls ((List.range len0).map fun i => (q i).1)).getD i tlvD = tlvV (q i).1 := e
          rw [e]
          have : j = 0 ∨ j = 1 ∨ j = 2 := by omega
          rcases this with rfl | rfl | rfl
          · exact .val _
          · exact (hq i hi).2.1
          · exact .val _
end Go.Proofs.Ytelaolingpbnfaa
