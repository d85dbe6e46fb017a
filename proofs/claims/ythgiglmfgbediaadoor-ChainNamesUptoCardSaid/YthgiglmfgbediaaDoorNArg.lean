/- What a certificate that came in reads as. -/
import Derived.Test.YthgiglmfgbediaaDoorNLaw
import Derived.Test.YthgiglmfgbediaaDoorArg
import Derived.Test.YthgiglmfgbediaaDoorRows
import Derived.Deep.Strs
namespace Go.Proofs.YthgiglmfgbediaaDoor
open Go.ChangeShapes Go.WideShapes Go.ChangeAt Go.RowKit
set_option maxRecDepth 100000
def leafB : TypeDesc → Bool
  | .bool => true
  | .int _ => true
  | .string => true
  | .slice _ => true
  | _ => false
theorem leaf_one {H : Type} {enc : TypeId × Value → H} {P : Program} {w : World} {base : Nat} {sp : Nat → Bool} {hd : Bool} {t : TypeId} {td : TypeDesc} {fuel : Nat} {cs : List Value} {y : DataW H × List MemPlace}
    (ht : P.underlying t = some td) (hl : leafB td = true) (h : DataW.trod enc P w base sp hd fuel t cs = some y) : ∃ v, cs = [v] ∧ v.oneCell' = true := by
  cases fuel with
  | zero => simp [DataW.trod] at h
  | succ n =>
    unfold DataW.trod at h
    rw [ht] at h
    cases td <;> first | (simp [leafB] at hl; done) | skip
    all_goals
      split at h <;> first | exact ⟨_, rfl, rfl⟩ | simp_all
theorem strs_trod {H : Type} {enc : TypeId × Value → H} {P : Program} {w : World} {base : Nat} {sp : Nat → Bool} {hd : Bool} {t e : TypeId} {v : Value} {y : DataW H × List MemPlace} {fuel : Nat}
    (ht : P.underlying t = some (.slice e)) (he : P.underlying e = some .string) (hc : P.cellsOf e = 1) (hf : DataW.trod enc P w base sp hd fuel t [v] = some y) :
    ∃ ds : List (List UInt8), Rep w (.bare fun _ => False) (.sq 1 (.str []) (strs ds)) v ∧ (ds = [] ∨ ∃ s, y.1 = .slice (ds.map fun d => .lit (.string d)) s) := by
  rcases Go.Deep.open_strs ht he hc hf with ⟨hcs, _⟩ | ⟨a, len, cap, m, Sx, hcs, hb, hl, hm, hmm, hx, hcell⟩
  · obtain rfl : v = .slice none 0 0 := by simpa using hcs
    exact ⟨[], .sl _ 1 0 (fun i => (strs []).getD i (.str [])) none 0 0 0 (fun _ _ => undef) (by simp [V.elems, strs]) (Nat.le_refl _) (fun h => by omega) (fun i hi => by omega) (fun i hi => by omega), .inl rfl⟩
  · obtain rfl : v = .slice (some a) len cap := by simpa using hcs
    have hlm : len ≤ m := by rw [hmm]; split <;> omega
    refine ⟨(List.range len).map fun i => (Sx i).data.toList, ?_, .inr ⟨_, by rw [hx, List.map_map]; rfl⟩⟩
    generalize hds : ((List.range len).map fun i => (Sx i).data.toList) = ds
    have hlen : ds.length = len := by rw [← hds]; simp
    have hget : ∀ i, i < len → ds.getD i [] = (Sx i).data.toList := fun i hi => by
      rw [← hds, List.getD_eq_getElem?_getD, List.getElem?_map, List.getElem?_range hi]; rfl
    by_cases h0 : len = 0
    · subst h0
      exact .sl _ 1 0 (fun i => (strs ds).getD i (.str [])) (some a) cap 0 0 (fun _ _ => undef) (by simp [V.elems, strs_len, hlen]) hl (fun h => by omega) (fun i hi => by omega) (fun i hi => by omega)
    · obtain ⟨b, off, spot⟩ := a
      have hc0 := (hcell 0 (by omega)).1
      have hspot : spot = none := by simpa [Addr.add] using World.cell?_spot hc0
      subst hspot
      have hcl : ∀ i, i < len → w.cell? ⟨b, off + i, none⟩ = some (.string (Sx i)) := fun i hi => by
        have := (hcell i (by omega)).1
        rwa [addr_add] at this
      refine .sl _ 1 len (fun i => (strs ds).getD i (.str [])) (some ⟨b, off, none⟩) cap b off (fun i _ => .string (Sx i)) (by simp [V.elems, strs_len, hlen]) hl (fun _ => ⟨rfl, cell_lt (hcl 0 (by omega)), fun h => h⟩) (fun i hi j hj => ?_) (fun i hi j hj => ?_)
      · obtain rfl : j = 0 := by omega
        rw [Nat.mul_one, Nat.add_zero]
        exact ⟨hcl i hi, rfl⟩
      · show Rep w _ (((strs ds).getD i (.str [])).cell j) _
        rw [strs_get, hget i hi]
        exact .str (Sx i).data.toList
theorem bulk_mem {H : Type} : ∀ {l : List (DataW H)} {d : DataW H}, d ∈ l → Rows.uptoBulk d ≤ Rows.uptoBulkAll l
  | x :: r, d, h => by
    simp only [Rows.uptoBulkAll]
    rcases List.mem_cons.1 h with rfl | h
    · omega
    · have := bulk_mem h; omega
theorem bulk_one {H : Type} (d : DataW H) : 1 ≤ Rows.uptoBulk d := by
  cases d with
  | lit l => cases l <;> simp [Rows.uptoBulk]
  | _ => simp [Rows.uptoBulk]
theorem bulk_len {H : Type} : ∀ l : List (DataW H), l.length ≤ Rows.uptoBulkAll l
  | [] => by simp [Rows.uptoBulkAll]
  | d :: r => by
    have h1 := bulk_one d
    have h2 := bulk_len r
    simp only [Rows.uptoBulkAll, List.length_cons]; omega
theorem take_one {l : List Value} {o : Nat} {v : Value} (h : (l.drop o).take 1 = [v]) : l[o]? = some v := by
  have := congrArg (·[0]?) h
  simpa [List.getElem?_take, List.getElem?_drop] using this
theorem take_two {l : List Value} {o n i : Nat} {v : Value} (h : (((l.drop o).take n).drop i).take 1 = [v]) : l[o + i]? = some v := by
  have h1 := take_one h
  rw [List.getElem?_take] at h1
  split at h1
  · rw [List.getElem?_drop] at h1; exact h1
  · cases h1
theorem leaf_at {H : Type} {enc : TypeId × Value → H} {P : Program} {w : World} {base : Nat} {sp : Nat → Bool} {hd : Bool} {n : Nat} {fs : Array Field} {xs : List (DataW H × List MemPlace)} {cs : List Value}
    (hfld : ∀ (i : Nat) (f : Field), fs[i]? = some f → DataW.trod enc P w base sp hd n f.type ((cs.drop f.offset).take (P.cellsOf f.type)) = xs[i]?) (hxl : xs.length = fs.size)
    (i : Nat) (f : Field) (o : Nat) (hi : fs[i]? = some f) (ho : f.offset = o) (hc : P.cellsOf f.type = 1) {td : TypeDesc} (ht : P.underlying f.type = some td) (hl : leafB td = true) : ∃ v, (cs.drop o).take 1 = [v] ∧ v.oneCell' = true := by
  have h1 := hfld i f hi
  have hi' : i < xs.length := by
    have := (Array.getElem?_eq_some_iff.1 hi).1
    rw [hxl]; exact this
  rw [List.getElem?_eq_getElem hi', ho, hc] at h1
  exact leaf_one ht hl h1
theorem at_one {cs : Array Value} {o : Nat} (h : ∃ v, (cs.toList.drop o).take 1 = [v] ∧ v.oneCell' = true) : ∃ v, cs[o]? = some v ∧ v.oneCell' = true := by
  obtain ⟨v, h1, h2⟩ := h
  exact ⟨v, by have := take_one h1; simpa using this, h2⟩
theorem at_two {cs : Array Value} {o n i : Nat} (h : ∃ v, (((cs.toList.drop o).take n).drop i).take 1 = [v] ∧ v.oneCell' = true) : ∃ v, cs[o + i]? = some v ∧ v.oneCell' = true := by
  obtain ⟨v, h1, h2⟩ := h
  exact ⟨v, by have := take_two h1; simpa using this, h2⟩
theorem arg_cert {H : Type} {enc : TypeId × Value → H} {w : World} {base b0 : Nat} {sp : Nat → Bool} {hd : Bool} {v : Value} {d : DataW H} {ps : List MemPlace}
    (hval : Value.okWide Tryd.prog w .any b0 30 v) (h : DataW.Trod enc Tryd.prog w base sp hd 30 v d ps) (hbk : Rows.uptoBulk d ≤ 1048576) :
    ∃ (x : Nat → Value) (ds : List (List UInt8)), ds.length ≤ 1048576 ∧ (∀ d ∈ ds, d.length ≤ 1048576) ∧ Rep w (.bare fun _ => False) (certC (fun j => .val (x j)) (.sq 1 (.str []) (strs ds))) v := by
  obtain ⟨cs, rfl, hcs⟩ := okWide_struct Tryd.underlying30 hval
  rw [show Tryd.prog.cellsOf 30 = 20 from by kernel_rfl] at hcs
  obtain ⟨fuel, hf⟩ := h
  obtain ⟨xs, n, rfl, hx, hlen, hxl, hfld⟩ := DataW.trod_struct Tryd.underlying30 hf
  have hce : (Value.agg cs).cells.toList = cs.toList := by simp [Value.cells]
  rw [hce] at hfld
  have hxl' : xs.length = 14 := hxl
  have key6 := hfld 6 _ rfl
  rw [List.getElem?_eq_getElem (by omega)] at key6
  obtain ⟨xk, nk, _, _, _, hkl, hkf⟩ := DataW.trod_struct Tryd.underlying26 key6
  have l0 := at_one (leaf_at hfld hxl 0 _ 0 rfl rfl (by kernel_rfl) Tryd.underlying22 rfl)
  have l1 := at_one (leaf_at hfld hxl 1 _ 1 rfl rfl (by kernel_rfl) Tryd.underlying22 rfl)
  have l2 := at_one (leaf_at hfld hxl 2 _ 2 rfl rfl (by kernel_rfl) Tryd.underlying22 rfl)
  have l3 := at_one (leaf_at hfld hxl 3 _ 3 rfl rfl (by kernel_rfl) Tryd.underlying22 rfl)
  have l4 := at_one (leaf_at hfld hxl 4 _ 4 rfl rfl (by kernel_rfl) Tryd.underlying2 rfl)
  have l5 := at_one (leaf_at hfld hxl 5 _ 5 rfl rfl (by kernel_rfl) Tryd.underlying2 rfl)
  have l13 := at_one (leaf_at hfld hxl 7 _ 13 rfl rfl (by kernel_rfl) Tryd.underlying4 rfl)
  have l14 := at_one (leaf_at hfld hxl 8 _ 14 rfl rfl (by kernel_rfl) Tryd.underlying3 rfl)
  have l15 := at_one (leaf_at hfld hxl 9 _ 15 rfl rfl (by kernel_rfl) Tryd.underlying3 rfl)
  have l16 := at_one (leaf_at hfld hxl 10 _ 16 rfl rfl (by kernel_rfl) Tryd.underlying4 rfl)
  have l17 := at_one (leaf_at hfld hxl 11 _ 17 rfl rfl (by kernel_rfl) Tryd.underlying27 rfl)
  have l18 := at_one (leaf_at hfld hxl 12 _ 18 rfl rfl (by kernel_rfl) Tryd.underlying28 rfl)
  have l19 := at_one (leaf_at hfld hxl 13 _ 19 rfl rfl (by kernel_rfl) Tryd.underlying22 rfl)
  have k0 := at_two (leaf_at hkf hkl 0 _ 0 rfl rfl (by kernel_rfl) Tryd.underlying23 rfl)
  have k1 := at_two (leaf_at hkf hkl 1 _ 1 rfl rfl (by kernel_rfl) Tryd.underlying24 rfl)
  have k2 := at_two (leaf_at hkf hkl 2 _ 2 rfl rfl (by kernel_rfl) Tryd.underlying22 rfl)
  have k3 := at_two (leaf_at hkf hkl 3 _ 3 rfl rfl (by kernel_rfl) Tryd.underlying22 rfl)
  have k4 := at_two (leaf_at hkf hkl 4 _ 4 rfl rfl (by kernel_rfl) Tryd.underlying22 rfl)
  have k5 := at_two (leaf_at hkf hkl 5 _ 5 rfl rfl (by kernel_rfl) Tryd.underlying22 rfl)
  have k6 := at_two (leaf_at hkf hkl 6 _ 6 rfl rfl (by kernel_rfl) Tryd.underlying22 rfl)
  have one : ∀ o, o < 20 → ∃ v, cs[o]? = some v ∧ v.oneCell' = true := by
    intro o ho
    match o, ho with
    | 0, _ => exact l0
    | 1, _ => exact l1
    | 2, _ => exact l2
    | 3, _ => exact l3
    | 4, _ => exact l4
    | 5, _ => exact l5
    | 6, _ => exact k0
    | 7, _ => exact k1
    | 8, _ => exact k2
    | 9, _ => exact k3
    | 10, _ => exact k4
    | 11, _ => exact k5
    | 12, _ => exact k6
    | 13, _ => exact l13
    | 14, _ => exact l14
    | 15, _ => exact l15
    | 16, _ => exact l16
    | 17, _ => exact l17
    | 18, _ => exact l18
    | 19, _ => exact l19
    | k + 20, h => exact absurd h (by omega)
  have hdn := hfld 11 _ rfl
  rw [List.getElem?_eq_getElem (by omega)] at hdn
  obtain ⟨vd, hd1, _⟩ := leaf_one Tryd.underlying27 rfl hdn
  rw [hd1] at hdn
  obtain ⟨ds, hR, hds⟩ := strs_trod Tryd.underlying27 Tryd.underlying9 (by kernel_rfl) hdn
  have h17 : cs[17]? = some vd := by have := take_one hd1; simpa using this
  have hbk2 : ∀ d ∈ ds, d.length ≤ 1048576 := fun z hz => by
    rcases hds with rfl | ⟨s, hs⟩
    · cases hz
    · have hd := (Prod.mk.inj hx).1
      have hm : (xs[11]'(by omega)).1 ∈ xs.map (·.1) := List.mem_map_of_mem (List.getElem_mem _)
      have h1 := bulk_mem hm
      rw [hd, Rows.uptoBulk] at hbk
      rw [hs, Rows.uptoBulk] at h1
      have h2 := bulk_mem (H := H) (List.mem_map_of_mem (f := fun d => DataW.lit (.string d)) hz)
      rw [Rows.uptoBulk] at h2
      omega
  have hbk3 : ds.length ≤ 1048576 := by
    rcases hds with rfl | ⟨s, hs⟩
    · simp
    · have hd := (Prod.mk.inj hx).1
      have hm : (xs[11]'(by omega)).1 ∈ xs.map (·.1) := List.mem_map_of_mem (List.getElem_mem _)
      have h1 := bulk_mem hm
      rw [hd, Rows.uptoBulk] at hbk
      rw [hs, Rows.uptoBulk] at h1
      have h2 := bulk_len (ds.map fun d => (DataW.lit (.string d) : DataW H))
      rw [List.length_map] at h2
      omega
  refine ⟨fun j => cs.getD j undef, ds, hbk3, hbk2, .st _ _ (fun j => cs.getD j undef) hcs (fun j hj => ?_) (fun j hj => ?_)⟩
  · obtain ⟨v, h1, h2⟩ := one j hj
    rw [Array.getD_eq_getD_getElem?, h1]
    exact ⟨rfl, h2⟩
  · have hj : j < 20 := hj
    have hR : Rep w (.bare fun _ => False) (.sq 1 (.str []) (strs ds)) (cs.getD 17 undef) := by rw [Array.getD_eq_getD_getElem?, h17]; exact hR
    match j, hj with
    | 0, _ => exact .val _
    | 1, _ => exact .val _
    | 2, _ => exact .val _
    | 3, _ => exact .val _
    | 4, _ => exact .val _
    | 5, _ => exact .val _
    | 6, _ => exact .val _
    | 7, _ => exact .val _
    | 8, _ => exact .val _
    | 9, _ => exact .val _
    | 10, _ => exact .val _
    | 11, _ => exact .val _
    | 12, _ => exact .val _
    | 13, _ => exact .val _
    | 14, _ => exact .val _
    | 15, _ => exact .val _
    | 16, _ => exact .val _
    | 17, _ => exact hR
    | 18, _ => exact .val _
    | 19, _ => exact .val _
    | k + 20, h => exact absurd h (by omega)
end Go.Proofs.YthgiglmfgbediaaDoor
