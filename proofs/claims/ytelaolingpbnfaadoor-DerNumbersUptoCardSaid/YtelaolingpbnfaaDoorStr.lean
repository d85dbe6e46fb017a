/- Numbers as texts, texts joined: the library's, by its shelf. -/
import Derived.Test.YtelaolingpbnfaaDoorDHead
import Derived.Test.YtelaolingpbnfaaDoorWtab
import Derived.Test.YtelaolingpbnfaaDoorShelf
import Derived.Lib.AppendIntMem
namespace Go.Proofs.YtelaolingpbnfaaDoor
open Go.RowKit
def JD : Inv := tabInv Tryd.prog [("internal/strconv.uint64pow10", .u64, Lib.pow10Tab)]
theorem itoa_fn (n : Int) (h : I64 n) : Fn Tryd.prog JD 40 false [.i n] (.str (Lib.itoa n)) := by
  refine ⟨⟨_, Tryd.func40, by kernel_rfl, by kernel_rfl⟩, fun w F vs hI hF hlen hvs => ?_⟩
  obtain ⟨x, rfl⟩ : ∃ x, vs = [x] := List.length_eq_one_iff.1 hlen
  obtain rfl := rep_val (hvs 0 _ x rfl rfl)
  refine (Tryd.strconv_Itoa n h.lo h.hi w (hI _ (List.mem_singleton.2 rfl)).1).mono fun e w' he => ?_
  obtain ⟨rfl, k, os, rfl⟩ := he
  exact ⟨_, rfl, Lib.below_grow _ w (Nat.le_refl _) k os, .str _⟩
theorem rep_strs {w : World} {F : Cx} {ss : List (List UInt8)} {y : Value} {d : V} (h : Rep w F (.sq 1 d (strs ss)) y) :
    ∃ A c, y = .slice A ss.length c ∧ ss.length ≤ c ∧ (0 < ss.length → ∃ b off, A = some ⟨b, off, none⟩ ∧ b < w.heap.size ∧ ∀ i (x : List UInt8), ss[i]? = some x → w.cell? ⟨b, off + i, none⟩ = some (.string ⟨x.toArray⟩)) := by
  cases h with
  | sl _ sz n c A cap b off u he hcap hA hc hr =>
    simp only [V.elems, if_neg (show ¬ (1 = 0) by omega), Option.some.injEq, Prod.mk.injEq] at he
    obtain ⟨rfl, hn, rfl⟩ := he
    rw [strs_len] at hn
    subst hn
    refine ⟨A, cap, rfl, hcap, fun hp => ⟨b, off, (hA hp).1, (hA hp).2.1, fun i x hx => ?_⟩⟩
    have hi : i < ss.length := (List.getElem?_eq_some_iff.1 hx).1
    have h1 := (hc i hi 0 (by omega)).1
    have h2 := hr i hi 0 (by omega)
    have e : ((strs ss).getD i d).cell 0 = .str x := by
      rw [strs, List.getD_eq_getElem?_getD, List.getElem?_map, hx]; rfl
    rw [e] at h2
    rw [rep_str h2] at h1
    rw [← h1]
    congr 2
    omega
theorem join_fn (ss : List (List UInt8)) (sep : List UInt8) (h1 : ss.length ≤ 140737488355328) (h2 : (Lib.join ss sep).length ≤ 140737488355328) : Fn Tryd.prog JD 41 false [.sq 1 (.str []) (strs ss), .str sep] (.str (Lib.join ss sep)) := by
  refine ⟨⟨_, Tryd.func41, by kernel_rfl, by kernel_rfl⟩, fun w F vs hI hF hlen hvs => ?_⟩
  obtain ⟨x, y, rfl⟩ : ∃ x y, vs = [x, y] := by
    match vs, hlen with
    | [x, y], _ => exact ⟨x, y, rfl⟩
  obtain rfl := rep_str (hvs 1 _ y rfl rfl)
  obtain ⟨A, c, rfl, hc, hp⟩ := rep_strs (hvs 0 _ x rfl rfl)
  cases ss with
  | nil =>
    refine (Tryd.strings_Join_none A c _ w).mono fun e w' he => ?_
    obtain ⟨rfl, rfl⟩ := he
    exact ⟨_, rfl, Ext.refl _, .str _⟩
  | cons s r =>
    obtain ⟨b, off, rfl, hb, hx⟩ := hp (by simp)
    have e : ((s :: r).map fun x => (⟨x.toArray⟩ : ByteArray)).map (·.data.toList) = s :: r := by
      rw [List.map_map]; exact List.map_id'' (fun x => rfl) _
    have := Tryd.strings_Join b off c ((s :: r).map fun x => (⟨x.toArray⟩ : ByteArray)) ⟨sep.toArray⟩ w (fun j z hz => by
      rw [List.getElem?_map, Option.map_eq_some_iff] at hz
      obtain ⟨q, hq, rfl⟩ := hz
      exact hx j q hq) hb (by simpa using h1) (by simpa using hc) (by rw [e]; exact h2)
    rw [e, List.length_map] at this
    refine this.mono fun e w' he => ?_
    obtain ⟨rfl, hbl⟩ := he
    exact ⟨_, rfl, hbl, .str _⟩
end Go.Proofs.YtelaolingpbnfaaDoor
