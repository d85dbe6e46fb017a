/- What a statement's arguments read as. -/
import Derived.Test.YtbjfhnbgiajnjaaDoorWtab
import Derived.WalkKit
import Derived.ProofKit
import Derived.OpenShut
import Derived.Deep.Slices
import Derived.SizedLaws
import Derived.Stop.LaidErr
import Derived.Lib.LaidTab
namespace Go.Proofs.YtbjfhnbgiajnjaaDoor
open Go.ChangeShapes Go.WideShapes Go.ChangeAt Go.RowKit
theorem cell_lt {w : World} {a : Addr} {v : Value} (h : w.cell? a = some v) : a.block < w.heap.size := by
  rcases Nat.lt_or_ge a.block w.heap.size with h1 | h1
  · exact h1
  · have : w.heap[a.block]? = none := Array.getElem?_eq_none h1
    unfold World.cell? at h
    rw [this] at h
    simp at h
/-- A slice of bytes that came in. -/
theorem arg_bytes {H : Type} {enc : TypeId × Value → H} {P : Program} {w : World} {base b0 : Nat} {sp : Nat → Bool} {hd : Bool} {t e : TypeId} {v : Value} {d : DataW H} {ps : List MemPlace} {ts : List TypeId} {ds : List (DataW H)} {j : Nat}
    (ht : P.underlying t = some (.slice e)) (he : P.underlying e = some (.int .u8)) (hc : P.cellsOf e = 1) (hb : P.bytesOf e = 1) (hval : Value.okWide P w .any b0 t v) (h : DataW.Trod enc P w base sp hd t v d ps)
    (hsz : (DataW.weightsEach P ts ds).all (· ≤ reachBytes) = true) (hj : ts[j]? = some t) (hdj : ds[j]? = some d) : ∃ l : List UInt8, l.length ≤ 140737488351232 ∧ Rep w (.bare fun _ => False) (.by l) v := by
  obtain ⟨a0, len0, cap0, rfl⟩ := okWide_slice ht hval
  obtain ⟨fuel, hf⟩ := h
  rcases open_ints ht he hc hf with ⟨hcs, _⟩ | ⟨x, l, c, zs, hcs, _, hl, hm, hz, hx, hcell, hwz⟩
  · simp [Value.cells] at hcs
    obtain ⟨rfl, rfl, rfl⟩ := hcs
    refine ⟨[], by simp, .sl _ 1 0 _ none 0 0 0 (fun _ _ => undef) rfl (Nat.le_refl _) (fun h => by omega) (fun i hi => by omega) (fun i hi => by omega)⟩
  · simp [Value.cells] at hcs
    obtain ⟨rfl, rfl, rfl⟩ := hcs
    have hlz : len0 ≤ zs.length := by rw [hz]; split <;> omega
    obtain ⟨hd1, _⟩ := Prod.mk.inj hx
    subst hd1
    have hs := sized_slice hsz hj hdj ht
    rw [hb, Nat.mul_one] at hs
    have hlen : ((zs.take len0).map u8).length = len0 := by simp; omega
    refine ⟨(zs.take len0).map u8, ?_, ?_⟩
    · rw [hlen]
      have e1 : (lits (H := H) .u8 (zs.take len0)).length = len0 := by unfold lits; simp; omega
      have : reachBytes = 140737488351232 := rfl
      omega
    · have hw : ∀ i, i < len0 → 0 ≤ zs.getD i 0 ∧ zs.getD i 0 < 256 := fun i hi => by
        have hmem : zs.getD i 0 ∈ zs := by rw [List.getD_eq_getElem?_getD, List.getElem?_eq_getElem (by omega)]; exact List.getElem_mem _
        have h1 := hwz _ hmem
        simp only [Lit.wf, Bool.and_eq_true, decide_eq_true_eq] at h1
        have e1 : IntKind.u8.min = 0 := rfl
        have e2 : IntKind.u8.max = 255 := rfl
        omega
      have hb2 : ∀ i, i < len0 → byteAt ((zs.take len0).map u8) i = zs.getD i 0 := fun i hi => by
        obtain ⟨h1, h2⟩ := hw i hi
        unfold byteAt
        rw [List.getD_eq_getElem?_getD, List.getElem?_map, List.getElem?_take, if_pos hi, List.getElem?_eq_getElem (by omega)]
        rw [List.getD_eq_getElem?_getD, List.getElem?_eq_getElem (by omega)] at h1 h2 ⊢
        exact u8_toNat _ h1 h2
      by_cases h0 : len0 = 0
      · subst h0
        exact .sl _ 1 0 (fun i => .val (.int .u8 (byteAt ((zs.take 0).map u8) i))) (some x) cap0 0 0 (fun _ _ => undef) rfl hl (fun h => by omega) (fun i hi => by omega) (fun i hi => by omega)
      · obtain ⟨b, off, spot⟩ := x
        have hc0 := hcell 0 (by omega)
        have hspot : spot = none := by simpa [Addr.add] using World.cell?_spot hc0
        subst hspot
        have hcl : ∀ i, i < len0 → w.cell? ⟨b, off + i, none⟩ = some (.int .u8 (zs.getD i 0)) := fun i hi => by
          have := hcell i (by omega)
          rwa [addr_add] at this
        refine .sl _ 1 len0 (fun i => .val (.int .u8 (byteAt ((zs.take len0).map u8) i))) (some ⟨b, off, none⟩) cap0 b off (fun i _ => .int .u8 (zs.getD i 0)) ?_ hl (fun _ => ⟨rfl, cell_lt (hcl 0 (by omega)), fun h => h⟩) (fun i hi j hj => ?_) (fun i hi j hj => ?_)
        · simp only [V.elems, hlen]
        · obtain rfl : j = 0 := by omega
          rw [Nat.mul_one, Nat.add_zero]
          exact ⟨hcl i hi, rfl⟩
        · obtain rfl : j = 0 := by omega
          rw [hb2 i hi]
          exact .val _
/-- The world holds the library's table. -/
theorem inv_of_tab {P : Program} {W : World} {g : Nat} {nm : String} {k : IntKind} {zs : List Int} (hg : P.globalNamed nm = some g) (h : Lib.TabIs P W nm k zs) : (tabInv P [(nm, k, zs)]).I W fun _ => False := by
  intro t ht
  obtain rfl := List.mem_singleton.1 ht
  refine ⟨h, g, hg, ?_, fun h => h⟩
  unfold Lib.TabIs World.var? at h
  rw [hg] at h
  simp only [Option.bind_some] at h
  rcases Nat.lt_or_ge g W.heap.size with h1 | h1
  · exact h1
  · rw [Array.getElem?_eq_none h1] at h; simp at h
end Go.Proofs.YtbjfhnbgiajnjaaDoor
