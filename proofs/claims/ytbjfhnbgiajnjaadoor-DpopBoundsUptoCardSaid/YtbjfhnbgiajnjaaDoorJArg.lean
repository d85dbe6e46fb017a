/- What a token's claims that came in read as. -/
import Derived.Test.YtbjfhnbgiajnjaaDoorJDp2
import Derived.Test.YtbjfhnbgiajnjaaDoorArg
import Derived.Test.YtbjfhnbgiajnjaaDoorRows
import Derived.Deep.Strs
namespace Go.Proofs.YtbjfhnbgiajnjaaDoor
open Go.ChangeShapes Go.WideShapes Go.ChangeAt Go.RowKit
set_option maxRecDepth 100000
theorem bulk_mem {H : Type} : ∀ {l : List (DataW H)} {d : DataW H}, d ∈ l → Rows.uptoBulk d ≤ Rows.uptoBulkAll l
  | x :: r, d, h => by
    simp only [Rows.uptoBulkAll]
    rcases List.mem_cons.1 h with rfl | h
    · omega
    · have := bulk_mem h; omega
theorem bulk_one {H : Type} (d : DataW H) : 1 ≤ Rows.uptoBulk d := by
  cases d with
  | lit l => cases l <;> simp [Rows.uptoBulk]
  | _ => simp [Rows.uptoBulk]
theorem bulk_len {H : Type} : ∀ l : List (DataW H), l.length ≤ Rows.uptoBulkAll l
  | [] => by simp [Rows.uptoBulkAll]
  | d :: r => by
    have h1 := bulk_one d
    have h2 := bulk_len r
    simp only [Rows.uptoBulkAll, List.length_cons]; omega
theorem take_one {l : List Value} {o : Nat} {v : Value} (h : (l.drop o).take 1 = [v]) : l[o]? = some v := by
  have := congrArg (·[0]?) h
  simpa [List.getElem?_take, List.getElem?_drop] using this
/-- So many nodes, so long texts as came in. -/
structure Came (ns : List Nd) : Prop where
  len : ns.length ≤ 1048576
  txt : ∀ n ∈ ns, n.key.length ≤ 1048576 ∧ n.text.length ≤ 1048576
  kid : ∀ n ∈ ns, n.kids ≤ 9223372036854775807
theorem Came.big {ns : List Nd} (h : Came ns) : Big ns := ⟨h.len, fun n hn => by have := h.txt n hn; omega, h.kid⟩
theorem Came.big2 {ns : List Nd} (h : Came ns) : Big (chF ns ns.length) := by
  have e : chF ns ns.length = ns.map bump := by simp [chF]
  rw [e]
  refine ⟨by rw [List.length_map]; exact h.len, fun n hn => ?_, fun n hn => ?_⟩
  · obtain ⟨m, hm, rfl⟩ := List.mem_map.1 hn
    have := h.txt m hm
    refine ⟨by show m.key.length ≤ _; omega, ?_⟩
    show (m.text ++ [49]).length ≤ _
    rw [List.length_append]; simp only [List.length_cons, List.length_nil]; omega
  · obtain ⟨m, hm, rfl⟩ := List.mem_map.1 hn
    exact h.kid m hm
theorem nodes_trod {H : Type} {enc : TypeId × Value → H} {w : World} {base : Nat} {sp : Nat → Bool} {hd : Bool} {v : Value} {y : DataW H × List MemPlace} {fuel : Nat}
    (hf : DataW.trod enc Tryd.prog w base sp hd fuel 22 [v] = some y) (hbk : Rows.uptoBulk y.1 ≤ 1048576) : ∃ ns : List Nd, Came ns ∧ Rep w (.bare fun _ => False) (ndsV ns) v := by
  have ce : Tryd.prog.cellsOf 36 = 6 := by kernel_rfl
  rcases Go.Deep.open_slice Tryd.underlying22 hf with ⟨hcs, _⟩ | ⟨x, len0, cap0, m, n, D, Pl, hcs, _, hl, hm, hmm, hx, hel⟩
  · obtain rfl : v = .slice none 0 0 := by simpa using hcs
    exact ⟨[], ⟨by simp, by simp, by simp⟩, .sl _ 6 0 (fun i => (nds []).getD i ndD) none 0 0 0 (fun _ _ => undef) (by simp [V.elems, ndsV, nds]) (Nat.le_refl _) (fun h => by omega) (fun i hi => by omega) (fun i hi => by omega)⟩
  · obtain rfl : v = .slice (some x) len0 cap0 := by simpa using hcs
    have hlm : len0 ≤ m := by rw [hmm]; split <;> omega
    subst hx
    simp only [Rows.uptoBulk] at hbk
    have hlen0 : len0 ≤ 1048576 := by
      have := bulk_len ((List.range len0).map D)
      rw [List.length_map, List.length_range] at this
      omega
    have each : ∀ i, i < len0 → ∃ q : Nd, (w.cell? (x.add (i * 6)) = some (.int .i64 q.kind) ∧ w.cell? (x.add (i * 6 + 1)) = some (.string ⟨q.key.toArray⟩) ∧ w.cell? (x.add (i * 6 + 2)) = some (.string ⟨q.text.toArray⟩) ∧ w.cell? (x.add (i * 6 + 3)) = some (.bool q.whole) ∧ w.cell? (x.add (i * 6 + 4)) = some (.int .i64 q.int) ∧ w.cell? (x.add (i * 6 + 5)) = some (.int .i64 q.kids)) ∧
        (q.key.length ≤ 1048576 ∧ q.text.length ≤ 1048576) ∧ q.kids ≤ 9223372036854775807 := fun i hi => by
      obtain ⟨cs', h1, h2⟩ := hel i (by omega)
      rw [ce] at h1
      obtain ⟨_, hlen, hcell⟩ := World.cells?_some h1
      obtain ⟨xs, n', _, hD, hcl, hxl, hfld⟩ := DataW.trod_struct Tryd.underlying36 h2
      have hxl' : xs.length = 6 := hxl
      match cs', hlen with
      | [v0, v1, v2, v3, v4, v5], _ =>
        have t0 := hfld 0 _ rfl
        have t1 := hfld 1 _ rfl
        have t2 := hfld 2 _ rfl
        have t3 := hfld 3 _ rfl
        have t4 := hfld 4 _ rfl
        have t5 := hfld 5 _ rfl
        rw [List.getElem?_eq_getElem (by omega)] at t0 t1 t2 t3 t4 t5
        obtain ⟨m0, e0, _, _⟩ := DataW.trod_int Tryd.underlying34 t0
        obtain ⟨s1, e1, y1, _⟩ := DataW.trod_string Tryd.underlying9 t1
        obtain ⟨s2, e2, y2, _⟩ := DataW.trod_string Tryd.underlying9 t2
        obtain ⟨b3, e3, _⟩ := DataW.trod_bool Tryd.underlying4 t3
        obtain ⟨m4, e4, _, _⟩ := DataW.trod_int Tryd.underlying2 t4
        obtain ⟨m5, e5, _, w5⟩ := DataW.trod_int Tryd.underlying3 t5
        have c0 := take_one e0
        have c1 := take_one e1
        have c2 := take_one e2
        have c3 := take_one e3
        have c4 := take_one e4
        have c5 := take_one e5
        obtain rfl : v0 = .int .i64 m0 := by simpa using c0
        obtain rfl : v1 = .string s1 := by simpa using c1
        obtain rfl : v2 = .string s2 := by simpa using c2
        obtain rfl : v3 = .bool b3 := by simpa using c3
        obtain rfl : v4 = .int .i64 m4 := by simpa using c4
        obtain rfl : v5 = .int .i64 m5 := by simpa using c5
        have g0 := hcell 0 (by omega)
        have g1 := hcell 1 (by omega)
        have g2 := hcell 2 (by omega)
        have g3 := hcell 3 (by omega)
        have g4 := hcell 4 (by omega)
        have g5 := hcell 5 (by omega)
        rw [Go.Deep.add_add] at g0 g1 g2 g3 g4 g5
        have hDm := bulk_mem (List.mem_map_of_mem (f := D) (List.mem_range.2 hi))
        have hDi : D i = .agg (xs.map (·.1)) := (Prod.mk.inj hD).1
        rw [hDi, Rows.uptoBulk] at hDm
        have k1 := bulk_mem (List.mem_map_of_mem (f := (·.1)) (List.getElem_mem (l := xs) (n := 1) (by omega)))
        have k2 := bulk_mem (List.mem_map_of_mem (f := (·.1)) (List.getElem_mem (l := xs) (n := 2) (by omega)))
        simp only [y1, y2, Rows.uptoBulk] at k1 k2
        refine ⟨⟨m0, s1.data.toList, s2.data.toList, b3, m4, m5⟩, ⟨by simpa using g0, by simpa using g1, by simpa using g2, by simpa using g3, by simpa using g4, by simpa using g5⟩, ⟨by show s1.data.toList.length ≤ _; omega, by show s2.data.toList.length ≤ _; omega⟩, ?_⟩
        simp only [Lit.wf, Bool.and_eq_true, decide_eq_true_eq] at w5
        exact w5.2
    obtain ⟨q, hq⟩ := Go.Deep.choose_lt each
    have hts : ∀ i, i < len0 → ((List.range len0).map q).getD i default = q i := fun i hi => by
      rw [List.getD_eq_getElem?_getD, List.getElem?_map, List.getElem?_range hi]; rfl
    refine ⟨(List.range len0).map q, ⟨by simp; omega, fun t ht => ?_, fun t ht => ?_⟩, ?_⟩
    · obtain ⟨i, hi, rfl⟩ := List.mem_map.1 ht
      exact (hq i (List.mem_range.1 hi)).2.1
    · obtain ⟨i, hi, rfl⟩ := List.mem_map.1 ht
      exact (hq i (List.mem_range.1 hi)).2.2
    · have helm : (ndsV ((List.range len0).map q)).elems = some (6, len0, fun i => (nds ((List.range len0).map q)).getD i ndD) := by
        simp [ndsV, V.elems, nds]
      by_cases h0 : len0 = 0
      · subst h0
        exact .sl _ 6 0 _ (some x) cap0 0 0 (fun _ _ => undef) helm hl (fun h => by omega) (fun i hi => by omega) (fun i hi => by omega)
      · obtain ⟨bk, off, spot⟩ := x
        have hc0 := (hq 0 (by omega)).1.1
        have hspot : spot = none := by simpa [Addr.add] using World.cell?_spot hc0
        subst hspot
        refine .sl _ 6 len0 _ (some ⟨bk, off, none⟩) cap0 bk off (fun i j => match j with | 0 => .int .i64 (q i).kind | 1 => .string ⟨(q i).key.toArray⟩ | 2 => .string ⟨(q i).text.toArray⟩ | 3 => .bool (q i).whole | 4 => .int .i64 (q i).int | _ => .int .i64 (q i).kids) helm hl (fun _ => ⟨rfl, by have := cell_lt hc0; rwa [addr_add] at this, fun h => h⟩) (fun i hi j hj => ?_) (fun i hi j hj => ?_)
        · obtain ⟨g0, g1, g2, g3, g4, g5⟩ := (hq i hi).1
          rw [addr_add] at g0 g1 g2 g3 g4 g5
          match j, hj with
          | 0, _ => exact ⟨g0, rfl⟩
          | 1, _ => exact ⟨g1, rfl⟩
          | 2, _ => exact ⟨g2, rfl⟩
          | 3, _ => exact ⟨g3, rfl⟩
          | 4, _ => exact ⟨g4, rfl⟩
          | 5, _ => exact ⟨g5, rfl⟩
          | k + 6, h => exact absurd h (by omega)
        · have e := nds_get ((List.range len0).map q) i
          rw [hts i hi] at e
          have e : (nds ((List.range len0).map q)).getD i ndD = ndV (q i) := e
          rw [e]
          match j, hj with
          | 0, _ => exact .val _
          | 1, _ => exact .str _
          | 2, _ => exact .str _
          | 3, _ => exact .bb _
          | 4, _ => exact .val _
          | 5, _ => exact .val _
          | k + 6, h => exact absurd h (by omega)
theorem slice_leaf {H : Type} {enc : TypeId × Value → H} {P : Program} {w : World} {base : Nat} {sp : Nat → Bool} {hd : Bool} {t e : TypeId} {cs : List Value} {y : DataW H × List MemPlace} {fuel : Nat} (ht : P.underlying t = some (.slice e))
    (h : DataW.trod enc P w base sp hd fuel t cs = some y) : ∃ A n k, cs = [.slice A n k] := by
  rcases DataW.trod_slice ht h with ⟨h, _⟩ | ⟨a, l, c, _, _, _, _, h, _⟩
  · exact ⟨_, _, _, h⟩
  · exact ⟨_, _, _, h⟩
theorem arg_claims {H : Type} {enc : TypeId × Value → H} {w : World} {base b0 : Nat} {sp : Nat → Bool} {hd : Bool} {v : Value} {d : DataW H} {ps : List MemPlace}
    (hval : Value.okWide Tryd.prog w .any b0 27 v) (h : DataW.Trod enc Tryd.prog w base sp hd 27 v d ps) (hbk : Rows.uptoBulk d ≤ 1048576) :
    ∃ (ns : List Nd) (c : Cl), Came ns ∧ Rep w (.bare fun _ => False) (clV (ndsV ns) c) v := by
  obtain ⟨cs, rfl, hcs⟩ := okWide_struct Tryd.underlying27 hval
  rw [show Tryd.prog.cellsOf 27 = 15 from by kernel_rfl] at hcs
  obtain ⟨fuel, hf⟩ := h
  obtain ⟨xs, n, rfl, hx, hlen, hxl, hfld⟩ := DataW.trod_struct Tryd.underlying27 hf
  have hce : (Value.agg cs).cells.toList = cs.toList := by simp [Value.cells]
  rw [hce] at hfld
  have hxl' : xs.length = 12 := hxl
  have t0 := hfld 0 _ rfl
  have t1 := hfld 1 _ rfl
  have t2 := hfld 2 _ rfl
  have t3 := hfld 3 _ rfl
  have t4 := hfld 4 _ rfl
  have t5 := hfld 5 _ rfl
  have t6 := hfld 6 _ rfl
  have t7 := hfld 7 _ rfl
  have t8 := hfld 8 _ rfl
  have t9 := hfld 9 _ rfl
  have t10 := hfld 10 _ rfl
  have t11 := hfld 11 _ rfl
  rw [List.getElem?_eq_getElem (by omega)] at t0 t1 t2 t3 t4 t5 t6 t7 t8 t9 t10 t11
  have one : ∀ {o : Nat} {v : Value}, (cs.toList.drop o).take 1 = [v] → cs[o]? = some v := fun h => by have := take_one h; simpa using this
  have two : ∀ {o k i : Nat} {v : Value}, (((cs.toList.drop o).take k).drop i).take 1 = [v] → cs[o + i]? = some v := fun {o k i v} h => by
    have h1 := take_one h
    rw [List.getElem?_take] at h1
    split at h1
    · rw [List.getElem?_drop] at h1; simpa using h1
    · cases h1
  obtain ⟨s1, e1, _⟩ := DataW.trod_string Tryd.underlying9 t1
  obtain ⟨b2, e2, _⟩ := DataW.trod_bool Tryd.underlying4 t2
  obtain ⟨s3, e3, _⟩ := DataW.trod_string Tryd.underlying9 t3
  obtain ⟨b4, e4, _⟩ := DataW.trod_bool Tryd.underlying4 t4
  obtain ⟨A5, n5, k5, e5⟩ := slice_leaf Tryd.underlying23 t5
  obtain ⟨b6, e6, _⟩ := DataW.trod_bool Tryd.underlying4 t6
  obtain ⟨s7, e7, _⟩ := DataW.trod_string Tryd.underlying9 t7
  obtain ⟨b8, e8, _⟩ := DataW.trod_bool Tryd.underlying4 t8
  obtain ⟨x9, n9, _, _, _, l9, f9⟩ := DataW.trod_struct Tryd.underlying25 t9
  obtain ⟨x10, n10, _, _, _, l10, f10⟩ := DataW.trod_struct Tryd.underlying25 t10
  obtain ⟨x11, n11, _, _, _, l11, f11⟩ := DataW.trod_struct Tryd.underlying25 t11
  have l9' : x9.length = 2 := l9
  have l10' : x10.length = 2 := l10
  have l11' : x11.length = 2 := l11
  have p9 := f9 0 _ rfl
  have q9 := f9 1 _ rfl
  have p10 := f10 0 _ rfl
  have q10 := f10 1 _ rfl
  have p11 := f11 0 _ rfl
  have q11 := f11 1 _ rfl
  rw [List.getElem?_eq_getElem (by omega)] at p9 q9 p10 q10 p11 q11
  obtain ⟨b9, e9, _⟩ := DataW.trod_bool Tryd.underlying4 p9
  obtain ⟨m9, g9, _⟩ := DataW.trod_int Tryd.underlying2 q9
  obtain ⟨b10, e10, _⟩ := DataW.trod_bool Tryd.underlying4 p10
  obtain ⟨m10, g10, _⟩ := DataW.trod_int Tryd.underlying2 q10
  obtain ⟨b11, e11, _⟩ := DataW.trod_bool Tryd.underlying4 p11
  obtain ⟨m11, g11, _⟩ := DataW.trod_int Tryd.underlying2 q11
  obtain ⟨A0, n0, k0, e0⟩ := slice_leaf Tryd.underlying22 t0
  have hd0 : Rows.uptoBulk (xs[0]'(by omega)).1 ≤ 1048576 := by
    have hd := (Prod.mk.inj hx).1
    have hm : (xs[0]'(by omega)).1 ∈ xs.map (·.1) := List.mem_map_of_mem (List.getElem_mem _)
    have h1 := bulk_mem hm
    rw [hd, Rows.uptoBulk] at hbk
    omega
  rw [e0] at t0
  obtain ⟨ns, hns, hR⟩ := nodes_trod t0 hd0
  have c0 : cs[0]? = some (.slice A0 n0 k0) := one (o := 0) e0
  have c1 : cs[1]? = some (.string s1) := one (o := 1) e1
  have c2 : cs[2]? = some (.bool b2) := one (o := 2) e2
  have c3 : cs[3]? = some (.string s3) := one (o := 3) e3
  have c4 : cs[4]? = some (.bool b4) := one (o := 4) e4
  have c5 : cs[5]? = some (.slice A5 n5 k5) := one (o := 5) e5
  have c6 : cs[6]? = some (.bool b6) := one (o := 6) e6
  have c7 : cs[7]? = some (.string s7) := one (o := 7) e7
  have c8 : cs[8]? = some (.bool b8) := one (o := 8) e8
  have c9 : cs[9]? = some (.bool b9) := two (o := 9) (i := 0) e9
  have c10 : cs[10]? = some (.int .i64 m9) := two (o := 9) (i := 1) g9
  have c11 : cs[11]? = some (.bool b10) := two (o := 11) (i := 0) e10
  have c12 : cs[12]? = some (.int .i64 m10) := two (o := 11) (i := 1) g10
  have c13 : cs[13]? = some (.bool b11) := two (o := 13) (i := 0) e11
  have c14 : cs[14]? = some (.int .i64 m11) := two (o := 13) (i := 1) g11
  refine ⟨ns, ⟨s1.data.toList, b2, s3.data.toList, b4, A5, n5, k5, b6, s7.data.toList, b8, b9, m9, b10, m10, b11, m11⟩, hns, .st _ _ (fun j => cs.getD j undef) hcs (fun j hj => ?_) (fun j hj => ?_)⟩
  · have hj : j < 15 := hj
    rw [Array.getD_eq_getD_getElem?]
    match j, hj with
    | 0, _ => rw [c0]; exact ⟨rfl, rfl⟩
    | 1, _ => rw [c1]; exact ⟨rfl, rfl⟩
    | 2, _ => rw [c2]; exact ⟨rfl, rfl⟩
    | 3, _ => rw [c3]; exact ⟨rfl, rfl⟩
    | 4, _ => rw [c4]; exact ⟨rfl, rfl⟩
    | 5, _ => rw [c5]; exact ⟨rfl, rfl⟩
    | 6, _ => rw [c6]; exact ⟨rfl, rfl⟩
    | 7, _ => rw [c7]; exact ⟨rfl, rfl⟩
    | 8, _ => rw [c8]; exact ⟨rfl, rfl⟩
    | 9, _ => rw [c9]; exact ⟨rfl, rfl⟩
    | 10, _ => rw [c10]; exact ⟨rfl, rfl⟩
    | 11, _ => rw [c11]; exact ⟨rfl, rfl⟩
    | 12, _ => rw [c12]; exact ⟨rfl, rfl⟩
    | 13, _ => rw [c13]; exact ⟨rfl, rfl⟩
    | 14, _ => rw [c14]; exact ⟨rfl, rfl⟩
    | k + 15, h => exact absurd h (by omega)
  · have hj : j < 15 := hj
    rw [Array.getD_eq_getD_getElem?]
    match j, hj with
    | 0, _ => rw [c0]; exact hR
    | 1, _ => rw [c1]; exact .str _
    | 2, _ => rw [c2]; exact .bb _
    | 3, _ => rw [c3]; exact .str _
    | 4, _ => rw [c4]; exact .bb _
    | 5, _ => rw [c5]; exact .val _
    | 6, _ => rw [c6]; exact .bb _
    | 7, _ => rw [c7]; exact .str _
    | 8, _ => rw [c8]; exact .bb _
    | 9, _ => rw [c9]; exact .bb _
    | 10, _ => rw [c10]; exact .val _
    | 11, _ => rw [c11]; exact .bb _
    | 12, _ => rw [c12]; exact .val _
    | 13, _ => rw [c13]; exact .bb _
    | 14, _ => rw [c14]; exact .val _
    | k + 15, h => exact absurd h (by omega)
end Go.Proofs.YtbjfhnbgiajnjaaDoor
