/- The world for numbers and identifiers; the library's Atoi and Split at this program. -/
import Derived.Test.YtelaolingpbnfaaDoorVal
import Derived.Test.YtelaolingpbnfaaDoorShelf
namespace Go.Proofs.YtelaolingpbnfaaDoor
open Go.RowKit
set_option linter.unusedSimpArgs false
set_option maxRecDepth 100000
theorem cell_same {w w' : World} {b : Nat} (e : w'.heap[b]? = w.heap[b]?) (o : Nat) : w'.cell? ⟨b, o, none⟩ = w.cell? ⟨b, o, none⟩ := by
  simp only [World.cell?, e]
def ErrAt (w : World) (g : Nat) : Prop := ∃ ev, w.cell? ⟨g, 0, none⟩ = some ev ∧ (ev = .nilIface ∨ ∃ te pe, ev = .iface te pe)
def JV : Inv where
  I := fun w F => JD.I w F ∧ (∃ m, w.cell? ⟨1, 0, none⟩ = some (.int .i64 m)) ∧ ErrAt w 2 ∧ ErrAt w 3 ∧ 4 ≤ w.heap.size ∧ ∀ g, g < 4 → ¬ F g
  out := fun {w w' F F'} h hs hb hF => by
    obtain ⟨h0, ⟨m, h1⟩, ⟨e2, h2, k2⟩, ⟨e3, h3, k3⟩, h4, h5⟩ := h
    have e : ∀ g, g < 4 → w'.heap[g]? = w.heap[g]? := fun g hg => hb g (by omega) (h5 g hg)
    exact ⟨JD.out h0 hs hb hF, ⟨m, (cell_same (e _ (by decide)) _).trans h1⟩, ⟨e2, (cell_same (e _ (by decide)) _).trans h2, k2⟩, ⟨e3, (cell_same (e _ (by decide)) _).trans h3, k3⟩, by omega, fun g hg hf => (hF g hf).elim (h5 g hg) fun h => by omega⟩
  gl := fun _ => none
  glOk := fun _ _ h => by cases h
theorem Fn.weak {P : Program} {J J' : Inv} {f : FuncId} {fr : Bool} {args : List V} {res : V} (h : Fn P J f fr args res) (hJ : ∀ w F, J'.I w F → J.I w F) : Fn P J' f fr args res :=
  ⟨h.1, fun w F vs hI => h.2 w F vs (hJ w F hI)⟩
theorem toJV {f : FuncId} {fr : Bool} {args : List V} {res : V} (h : Fn Tryd.prog JD f fr args res) : Fn Tryd.prog JV f fr args res := h.weak fun _ _ h => h.1
theorem mk_size (l : List UInt8) : (⟨l.toArray⟩ : ByteArray).size = l.length := by simp [ByteArray.size]
/-- What Atoi's error is. -/
def errV (p : List UInt8) : V := match Lib.atoiAll p with
  | .ok _ => .val .nilIface
  | _ => .nn
theorem atoi_fn (p : List UInt8) (h : p.length ≤ 1073741824) : Fn Tryd.prog JV 57 false [.str p] (.tu [.val (.int .i64 (numV p)), errV p]) := by
  refine ⟨⟨_, Tryd.func57, by kernel_rfl, by kernel_rfl⟩, fun w F vs hI hF hlen hvs => ?_⟩
  obtain ⟨x, rfl⟩ : ∃ x, vs = [x] := List.length_eq_one_iff.1 hlen
  obtain rfl := rep_str (hvs 0 _ x rfl rfl)
  obtain ⟨-, -, ⟨e2, h2, k2⟩, ⟨e3, h3, k3⟩, -⟩ := hI
  have two : ∀ (w' : World) (n : Int) (v : V) (y : Value), Rep w' (.bare fun b => F b ∨ (false = true ∧ b < w.heap.size)) v y → Rep w' (.bare fun b => F b ∨ (false = true ∧ b < w.heap.size)) (.tu [.val (.int .i64 n), v]) (.tuple #[.int .i64 n, y]) := fun w' n v y hv => by
    refine .tu _ _ (fun j => if j = 0 then .int .i64 n else y) rfl (fun j hj => ?_) (fun j hj => ?_)
    · have : j = 0 ∨ j = 1 := by simp at hj; omega
      rcases this with rfl | rfl <;> rfl
    · have : j = 0 ∨ j = 1 := by simp at hj; omega
      rcases this with rfl | rfl
      · exact .val _
      · exact hv
  unfold numV errV
  cases hc : Lib.atoiAll p
  · rename_i v
    refine (Tryd.strconv_Atoi_ok ⟨p.toArray⟩ (by rw [mk_size]; omega) v hc w).mono fun e w' ⟨he, hw⟩ => ?_
    subst he
    refine ⟨_, rfl, ?_, two _ _ _ _ (.val _)⟩
    rcases hw with rfl | ⟨t, rfl⟩
    · exact Ext.refl _
    · exact Lib.bytesWorld_below _ _ _
  · refine (Tryd.strconv_Atoi_syntax ⟨p.toArray⟩ (by rw [mk_size]; omega) hc e2 w h2 k2).mono fun e w' ⟨N, he, _, _, hb⟩ => ?_
    subst he
    exact ⟨_, rfl, hb, two _ _ _ _ (.nn _ _)⟩
  · refine (Tryd.strconv_Atoi_range ⟨p.toArray⟩ (by rw [mk_size]; omega) hc e3 w h3 k3).mono fun e w' ⟨N, he, _, _, hb⟩ => ?_
    subst he
    exact ⟨_, rfl, hb, two _ _ _ _ (.nn _ _)⟩
theorem split_fn (s : List UInt8) (h : s.length ≤ 1073741824) : Fn Tryd.prog JV 43 false [.str s, .str [46]] (.sq 1 (.str []) (strs (spl 46 s))) := by
  refine ⟨⟨_, Tryd.func43, by kernel_rfl, by kernel_rfl⟩, fun w F vs hI hF hlen hvs => ?_⟩
  obtain ⟨x, y, rfl⟩ : ∃ x y, vs = [x, y] := by
    match vs, hlen with
    | [x, y], _ => exact ⟨x, y, rfl⟩
  obtain rfl := rep_str (hvs 0 _ x rfl rfl)
  obtain rfl := rep_str (hvs 1 _ y rfl rfl)
  obtain ⟨_, ⟨m, hm⟩, _⟩ := hI
  refine (Tryd.strings_Split ⟨s.toArray⟩ ⟨#[46]⟩ m w (by rw [mk_size]; omega) hm (by decide)).mono fun e w' he => ?_
  obtain ⟨rfl, rfl⟩ := he
  have hsp := splitB_spl 46 ⟨s.toArray⟩
  have hc : Lib.countB ⟨s.toArray⟩ ⟨#[46]⟩ + 1 = (spl 46 s).length := by
    rw [spl_len]; congr 1; exact Lib.count_one 46 s
  generalize Lib.splitB ⟨#[46]⟩ 0 (Lib.countB ⟨s.toArray⟩ ⟨#[46]⟩) ⟨s.toArray⟩ = L at hsp ⊢
  rw [hc]
  have hL : L.length = (spl 46 s).length := by rw [show spl 46 s = L.map (·.data.toList) from hsp.symm]; simp
  have hget : ∀ i, i < (spl 46 s).length → (L.map Value.string).toArray[i]? = some (.string ⟨((spl 46 s).getD i []).toArray⟩) := by
    intro i hi
    rw [show spl 46 s = L.map (·.data.toList) from hsp.symm]
    rw [List.getD_eq_getElem?_getD, List.getElem?_toArray, List.getElem?_map, List.getElem?_map, List.getElem?_eq_getElem (by omega)]
    rfl
  refine ⟨_, rfl, (Below.refl _ w).alloc (Nat.le_refl _) _, .sl _ 1 (spl 46 s).length (fun i => (strs (spl 46 s)).getD i (.str [])) _ _ w.heap.size 0 (fun i _ => .string ⟨((spl 46 s).getD i []).toArray⟩) (by simp [V.elems, strs_len]) (Nat.le_refl _) (fun _ => ⟨rfl, by simp, fun hf => ?_⟩) (fun i hi j hj => ?_) (fun i hi j hj => ?_)⟩
  · rcases hf with hf | ⟨hf, _⟩
    · exact absurd (hF _ hf) (by omega)
    · cases hf
  · obtain rfl : j = 0 := by omega
    refine ⟨?_, rfl⟩
    rw [World.cell?_alloc_new]
    rw [show 0 + (i * 1 + 0) = i from by omega]
    exact hget i hi
  · rw [strs_get]
    exact .str _
end Go.Proofs.YtelaolingpbnfaaDoor
