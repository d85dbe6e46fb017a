/- The library's functions on texts: by its shelf. -/
import Derived.Test.YthgiglmfgbediaaDoorNInv
import Derived.Test.YthgiglmfgbediaaDoorShelf
import Derived.Shelf.Strings.SlTrimAscii
namespace Go.Proofs.YthgiglmfgbediaaDoor
open Go.RowKit
set_option linter.unusedSimpArgs false
set_option maxRecDepth 100000
theorem mk_size (l : List UInt8) : (⟨l.toArray⟩ : ByteArray).size = l.length := by simp [ByteArray.size]
theorem drawn_below (w : World) (n : Nat) : Below w.heap.size w (w.drewN n) := below_drewNm w n
theorem cut_fn (s p : List UInt8) (h : s.length ≤ 1073741824) : Fn Tryd.prog JN 7 false [.str s, .str p] (.tu [.str (Lib.cut s p).1, .str (Lib.cut s p).2.1, .bb (Lib.cut s p).2.2]) := by
  refine ⟨⟨_, Tryd.func7, by kernel_rfl, by kernel_rfl⟩, fun w F vs hI hF hlen hvs => ?_⟩
  obtain ⟨x, y, rfl⟩ : ∃ x y, vs = [x, y] := by
    match vs, hlen with
    | [x, y], _ => exact ⟨x, y, rfl⟩
  obtain rfl := rep_str (hvs 0 _ x rfl rfl)
  obtain rfl := rep_str (hvs 1 _ y rfl rfl)
  obtain ⟨_, ⟨m, hm⟩, _⟩ := hI
  refine (Tryd.strings_Cut ⟨s.toArray⟩ ⟨p.toArray⟩ m w (by rw [mk_size]; omega) hm).mono fun e w' he => ?_
  obtain ⟨rfl, n, rfl⟩ := he
  refine ⟨_, rfl, drawn_below w n, .tu _ _ (fun j => if j = 0 then .string ⟨(Lib.cut s p).1.toArray⟩ else if j = 1 then .string ⟨(Lib.cut s p).2.1.toArray⟩ else .bool (Lib.cut s p).2.2) rfl (fun j hj => ?_) (fun j hj => ?_)⟩
  · have : j = 0 ∨ j = 1 ∨ j = 2 := by simp at hj; omega
    rcases this with rfl | rfl | rfl <;> rfl
  · have : j = 0 ∨ j = 1 ∨ j = 2 := by simp at hj; omega
    rcases this with rfl | rfl | rfl
    · exact .str _
    · exact .str _
    · exact .bb _
theorem cutPrefix_fn (s p : List UInt8) : Fn Tryd.prog JN 9 false [.str s, .str p] (.tu [.str (Lib.trimPrefix s p), .bb (Lib.hasPrefix s p)]) := by
  refine ⟨⟨_, Tryd.func9, by kernel_rfl, by kernel_rfl⟩, fun w F vs hI hF hlen hvs => ?_⟩
  obtain ⟨x, y, rfl⟩ : ∃ x y, vs = [x, y] := by
    match vs, hlen with
    | [x, y], _ => exact ⟨x, y, rfl⟩
  obtain rfl := rep_str (hvs 0 _ x rfl rfl)
  obtain rfl := rep_str (hvs 1 _ y rfl rfl)
  refine (Tryd.strings_CutPrefix ⟨s.toArray⟩ ⟨p.toArray⟩ w).mono fun e w' he => ?_
  obtain ⟨rfl, rfl⟩ := he
  refine ⟨_, rfl, Ext.refl _, .tu _ _ (fun j => if j = 0 then .string ⟨(Lib.trimPrefix s p).toArray⟩ else .bool (Lib.hasPrefix s p)) rfl (fun j hj => ?_) (fun j hj => ?_)⟩
  · have : j = 0 ∨ j = 1 := by simp at hj; omega
    rcases this with rfl | rfl <;> rfl
  · have : j = 0 ∨ j = 1 := by simp at hj; omega
    rcases this with rfl | rfl
    · exact .str _
    · exact .bb _
theorem contains_fn (s p : List UInt8) (h : s.length ≤ 1073741824) : Fn Tryd.prog JN 10 false [.str s, .str p] (.bb (Lib.contains s p)) := by
  refine ⟨⟨_, Tryd.func10, by kernel_rfl, by kernel_rfl⟩, fun w F vs hI hF hlen hvs => ?_⟩
  obtain ⟨x, y, rfl⟩ : ∃ x y, vs = [x, y] := by
    match vs, hlen with
    | [x, y], _ => exact ⟨x, y, rfl⟩
  obtain rfl := rep_str (hvs 0 _ x rfl rfl)
  obtain rfl := rep_str (hvs 1 _ y rfl rfl)
  obtain ⟨_, ⟨m, hm⟩, _⟩ := hI
  refine (Tryd.strings_Contains ⟨s.toArray⟩ ⟨p.toArray⟩ m w (by rw [mk_size]; omega) hm).mono fun e w' he => ?_
  obtain ⟨rfl, rfl⟩ := he
  exact ⟨_, rfl, Ext.refl _, .bb _⟩
theorem set_zero (w : World) : (zeroValue 48).run Tryd.prog w = .ok (.agg (Array.replicate 256 (.bool false))) w := by
  obtain ⟨i0, hi, hz0⟩ : ∃ i0, Tryd.prog.info? 48 = some i0 ∧ i0.zero = some (.agg (Array.replicate 256 (.bool false))) := by
    refine ⟨_, rfl, ?_⟩
    kernel_rfl
  simp [zeroValue, typeInfo, hi, hz0]
theorem trim_fn (s p : List UInt8) (h : s.length ≤ 1073741824) (hp : p.length ≤ 1000) (ha : ∀ b ∈ p, b.toNat < 128) : Fn Tryd.prog JN 15 false [.str s, .str p] (.str (Lib.trimS s p)) := by
  refine ⟨⟨_, Tryd.func15, by kernel_rfl, by kernel_rfl⟩, fun w F vs hI hF hlen hvs => ?_⟩
  obtain ⟨x, y, rfl⟩ : ∃ x y, vs = [x, y] := by
    match vs, hlen with
    | [x, y], _ => exact ⟨x, y, rfl⟩
  obtain rfl := rep_str (hvs 0 _ x rfl rfl)
  obtain rfl := rep_str (hvs 1 _ y rfl rfl)
  refine (Any.strings_Trim_ascii Tryd.lays160 set_zero (by kernel_rfl) ⟨s.toArray⟩ ⟨p.toArray⟩ w (by rw [mk_size]; omega) (by rw [mk_size]; omega) (fun j b hj => ha b (List.mem_of_getElem? hj))).mono fun e w' he => ?_
  obtain ⟨rfl, hb⟩ := he
  exact ⟨_, rfl, hb, .str _⟩
end Go.Proofs.YthgiglmfgbediaaDoor
