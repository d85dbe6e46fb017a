/- What an element that came in reads as. -/
import Derived.Test.YtelaolingpbnfaaDoorVInv
import Derived.Test.YtelaolingpbnfaaDoorArg2
import Derived.Deep.Strs
import Derived.Lib.LaidU8
namespace Go.Proofs.YtelaolingpbnfaaDoor
open Go.ChangeShapes Go.WideShapes Go.ChangeAt Go.RowKit
/-- A cell that reads as a slice of bytes. -/
theorem bytes_trod {H : Type} {enc : TypeId × Value → H} {P : Program} {w : World} {base : Nat} {sp : Nat → Bool} {hd : Bool} {t e : TypeId} {v : Value} {y : DataW H × List MemPlace} {fuel : Nat}
    (ht : P.underlying t = some (.slice e)) (he : P.underlying e = some (.int .u8)) (hc : P.cellsOf e = 1) (hf : DataW.trod enc P w base sp hd fuel t [v] = some y) :
    ∃ l : List UInt8, Rep w (.bare fun _ => False) (.by l) v ∧ v.oneCell' = true ∧ (l = [] ∨ ∃ es s, y.1 = .slice es s ∧ l.length = es.length) := by
  rcases open_ints ht he hc hf with ⟨hcs, _⟩ | ⟨x, len0, cap0, zs, hcs, _, hl, hm, hz, hx, hcell, hwz⟩
  · obtain rfl : v = .slice none 0 0 := by simpa using hcs
    exact ⟨[], .sl _ 1 0 _ none 0 0 0 (fun _ _ => undef) rfl (Nat.le_refl _) (fun h => by omega) (fun i hi => by omega) (fun i hi => by omega), rfl, .inl rfl⟩
  · obtain rfl : v = .slice (some x) len0 cap0 := by simpa using hcs
    have hlz : len0 ≤ zs.length := by rw [hz]; split <;> omega
    have hlen : ((zs.take len0).map u8).length = len0 := by simp; omega
    have hlen2 : (zs.take len0).length = len0 := by simp; omega
    refine ⟨(zs.take len0).map u8, ?_, rfl, .inr ⟨lits .u8 (zs.take len0), lits .u8 (zs.drop len0), by rw [hx], by rw [hlen]; unfold lits; rw [List.length_map, hlen2]⟩⟩
    have hw : ∀ i, i < len0 → 0 ≤ zs.getD i 0 ∧ zs.getD i 0 < 256 := fun i hi => by
      have hmem : zs.getD i 0 ∈ zs := by rw [List.getD_eq_getElem?_getD, List.getElem?_eq_getElem (by omega)]; exact List.getElem_mem _
      have h1 := hwz _ hmem
      simp only [Lit.wf, Bool.and_eq_true, decide_eq_true_eq] at h1
      have e1 : IntKind.u8.min = 0 := rfl
      have e2 : IntKind.u8.max = 255 := rfl
      omega
    have hb2 : ∀ i, i < len0 → byteAt ((zs.take len0).map u8) i = zs.getD i 0 := fun i hi => by
      obtain ⟨h1, h2⟩ := hw i hi
      unfold byteAt
      rw [List.getD_eq_getElem?_getD, List.getElem?_map, List.getElem?_take, if_pos hi, List.getElem?_eq_getElem (by omega)]
      rw [List.getD_eq_getElem?_getD, List.getElem?_eq_getElem (by omega)] at h1 h2 ⊢
      exact u8_toNat _ h1 h2
    by_cases h0 : len0 = 0
    · subst h0
      exact .sl _ 1 0 (fun i => .val (.int .u8 (byteAt ((zs.take 0).map u8) i))) (some x) cap0 0 0 (fun _ _ => undef) rfl hl (fun h => by omega) (fun i hi => by omega) (fun i hi => by omega)
    · obtain ⟨b, off, spot⟩ := x
      have hc0 := hcell 0 (by omega)
      have hspot : spot = none := by simpa [Addr.add] using World.cell?_spot hc0
      subst hspot
      have hcl : ∀ i, i < len0 → w.cell? ⟨b, off + i, none⟩ = some (.int .u8 (zs.getD i 0)) := fun i hi => by
        have := hcell i (by omega)
        rwa [addr_add] at this
      refine .sl _ 1 len0 (fun i => .val (.int .u8 (byteAt ((zs.take len0).map u8) i))) (some ⟨b, off, none⟩) cap0 b off (fun i _ => .int .u8 (zs.getD i 0)) ?_ hl (fun _ => ⟨rfl, cell_lt (hcl 0 (by omega)), fun h => h⟩) (fun i hi j hj => ?_) (fun i hi j hj => ?_)
      · simp only [V.elems, hlen]
      · obtain rfl : j = 0 := by omega
        rw [Nat.mul_one, Nat.add_zero]
        exact ⟨hcl i hi, rfl⟩
      · obtain rfl : j = 0 := by omega
        rw [hb2 i hi]
        exact .val _
theorem weightsAll_mem {H : Type} {P : Program} {e : TypeId} {n : Nat} : ∀ {l : List (DataW H)} {d : DataW H}, d ∈ l → n ∈ d.weights P e → n ∈ DataW.weightsAll P e l
  | [], _, hd, _ => by cases hd
  | x :: r, d, hd, hn => by
    simp only [DataW.weightsAll, List.mem_append]
    rcases List.mem_cons.1 hd with rfl | hd
    · exact .inl hn
    · exact .inr (weightsAll_mem hd hn)
theorem int_i64 {n : Int} (h : (Lit.int .i64 n).wf = true) : I64 n := by
  simp only [Lit.wf, Bool.and_eq_true, decide_eq_true_eq] at h
  have e1 : IntKind.i64.min = -9223372036854775808 := rfl
  have e2 : IntKind.i64.max = 9223372036854775807 := rfl
  exact ⟨by omega, by omega⟩
theorem bulk_mem {H : Type} : ∀ {l : List (DataW H)} {d : DataW H}, d ∈ l → Rows.uptoBulk d ≤ Rows.uptoBulkAll l
  | x :: r, d, h => by
    simp only [Rows.uptoBulkAll]
    rcases List.mem_cons.1 h with rfl | h
    · omega
    · have := bulk_mem h; omega
theorem arg_tlvB {H : Type} {enc : TypeId × Value → H} {P : Program} {w : World} {base b0 : Nat} {sp : Nat → Bool} {hd : Bool} {t b : TypeId} {f0 f1 f2 : Field} {v : Value} {d : DataW H} {ps : List MemPlace}
    (hs : P.underlying t = some (.struct #[f0, f1, f2])) (ce : P.cellsOf t = 3) (o0 : f0.offset = 0) (o1 : f1.offset = 1) (o2 : f2.offset = 2) (c0 : P.cellsOf f0.type = 1) (c1 : P.cellsOf f1.type = 1) (c2 : P.cellsOf f2.type = 1)
    (u0 : P.underlying f0.type = some (.int .i64)) (u1 : P.underlying f1.type = some (.slice b)) (u2 : P.underlying f2.type = some (.int .i64)) (ub : P.underlying b = some (.int .u8)) (cb : P.cellsOf b = 1)
    (hval : Value.okWide P w .any b0 t v) (h : DataW.Trod enc P w base sp hd t v d ps) (hbk : Rows.uptoBulk d ≤ 1048576) : ∃ t : Tlv, t.data.length ≤ 1048576 ∧ Rep w (.bare fun _ => False) (tlvV t) v := by
  obtain ⟨cs, rfl, hcs⟩ := okWide_struct hs hval
  obtain ⟨fuel, hf⟩ := h
  obtain ⟨y0, y1, y2, n', hD, hl3, t0, t1, t2⟩ := Go.Deep.trod_struct3 hs hf
  rw [ce] at hcs
  match cs, hcs with
  | ⟨[v0, v1, v2]⟩, _ =>
    simp only [Value.cells, o0, o1, o2, c0, c1, c2, List.drop_zero, List.drop_succ_cons, List.take_succ_cons, List.take_zero] at t0 t1 t2
    obtain ⟨m0, e0, _, w0⟩ := DataW.trod_int u0 t0
    obtain ⟨m2, e2, _, w2⟩ := DataW.trod_int u2 t2
    obtain rfl : v0 = .int .i64 m0 := by simpa using e0
    obtain rfl : v2 = .int .i64 m2 := by simpa using e2
    obtain ⟨lb, r1, r2, r3⟩ := bytes_trod u1 ub cb t1
    refine ⟨⟨m0, lb, m2⟩, ?_, .st [.val (.int .i64 m0), .by lb, .val (.int .i64 m2)] _ (fun j => if j = 0 then .int .i64 m0 else if j = 1 then v1 else .int .i64 m2) rfl (fun j hj => ?_) (fun j hj => ?_)⟩
    · rcases r3 with rfl | ⟨es, s, hy, hle⟩
      · simp
      · obtain ⟨hDi, _⟩ := Prod.mk.inj hD
        rw [hDi, Rows.uptoBulk] at hbk
        have h1 : Rows.uptoBulk y1.1 ≤ Rows.uptoBulkAll [y0.1, y1.1, y2.1] := bulk_mem (by simp)
        rw [hy] at h1
        have h2 := bulk_slice es s
        rw [hy] at hbk
        show lb.length ≤ 1048576
        omega
    · have : j = 0 ∨ j = 1 ∨ j = 2 := by simp at hj; omega
      rcases this with rfl | rfl | rfl
      · exact ⟨rfl, rfl⟩
      · exact ⟨rfl, r2⟩
      · exact ⟨rfl, rfl⟩
    · have : j = 0 ∨ j = 1 ∨ j = 2 := by simp at hj; omega
      rcases this with rfl | rfl | rfl
      · exact .val _
      · exact r1
      · exact .val _
theorem iface_cell {P : Program} {W : World} {n : String} {nm : String} {d : DataW Unit} {g : Nat} {t : TypeId} {ms : Array (String × TypeId)} (h : Lib.VarReads P W n (.iface nm d)) (hg : P.globalNamed n = some g) (hty : (P.globals[g]?).map (·.type) = some t) (ht : P.underlying t = some (.interface ms)) :
    ErrAt W g := by
  obtain ⟨g', t', cs, fuel, p, hg', hty', hvar, hd⟩ := h
  obtain rfl := Option.some.inj (hg.symm.trans hg')
  obtain rfl := Option.some.inj (hty.symm.trans hty')
  have hc : ∃ u v, cs.toList = [.iface u v] := by
    cases fuel with
    | zero => simp [DataW.trod] at hd
    | succ k =>
      unfold DataW.trod at hd
      rw [ht] at hd
      split at hd <;> simp_all
  obtain ⟨u, v, hc⟩ := hc
  refine ⟨.iface u v, ?_, .inr ⟨u, v, rfl⟩⟩
  rw [World.var?_cell hg' hvar 0, ← Array.getElem?_toList, hc]
  rfl
end Go.Proofs.YtelaolingpbnfaaDoor
