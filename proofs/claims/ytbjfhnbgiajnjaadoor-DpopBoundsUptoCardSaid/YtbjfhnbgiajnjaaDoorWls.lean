/- Lists of numbers and of texts as slices. -/
import Derived.Test.YtbjfhnbgiajnjaaDoorWrc
namespace Go.Proofs.YtbjfhnbgiajnjaaDoor
/-- The numbers of a slice of a kind. -/
def nums (k : IntKind) (ns : List Int) : List V := ns.map fun n => .val (.int k n)
def strs (ss : List (List UInt8)) : List V := ss.map .str
section
variable (k : IntKind) (ns ms : List Int) (ss rs : List (List UInt8)) (i j : Nat) (n d : Int) (s e : List UInt8)
theorem nums_len : (nums k ns).length = ns.length := by simp [nums]
theorem nums_get : (nums k ns).getD i (.val (.int k d)) = .val (.int k (ns.getD i d)) := by
  simp only [nums, List.getD_eq_getElem?_getD, List.getElem?_map]; cases ns[i]? <;> rfl
theorem nums_app : nums k ns ++ [.val (.int k n)] = nums k (ns ++ [n]) := by simp [nums]
theorem nums_apps : nums k ns ++ nums k ms = nums k (ns ++ ms) := by simp [nums]
theorem nums_one : [V.val (.int k n)] = nums k [n] := rfl
theorem nums_set : (nums k ns).set i (.val (.int k n)) = nums k (ns.set i n) := by simp [nums, List.map_set]
theorem nums_rep : List.replicate i (V.val (.int k n)) = nums k (List.replicate i n) := by simp [nums]
theorem nums_take : (nums k ns).take i = nums k (ns.take i) := by simp [nums, List.map_take]
theorem nums_drop : (nums k ns).drop i = nums k (ns.drop i) := by simp [nums, List.map_drop]
theorem nums_er : (nums k ns).map er2 = nums k ns := by simp [nums, er2, er1]
theorem nums_cl : clL (nums k ns) = true := by simp [clL_all, nums, V.cl]
theorem nums_sc : scL (nums k ns) = true := by simp [scL_all, nums, V.sc]
theorem nums_no : (nums k ns).all V.noOwn = true := by simp [nums, V.noOwn, V.isOwn]
theorem nums_ct : (nums k ns).all ct2 = true := by simp [nums, ct2, ct1, V.cl]
theorem strs_len : (strs ss).length = ss.length := by simp [strs]
theorem strs_get : (strs ss).getD i (.str e) = .str (ss.getD i e) := by
  simp only [strs, List.getD_eq_getElem?_getD, List.getElem?_map]; cases ss[i]? <;> rfl
theorem strs_app : strs ss ++ [.str s] = strs (ss ++ [s]) := by simp [strs]
theorem strs_apps : strs ss ++ strs rs = strs (ss ++ rs) := by simp [strs]
theorem strs_set : (strs ss).set i (.str s) = strs (ss.set i s) := by simp [strs, List.map_set]
theorem strs_rep : List.replicate i (V.str s) = strs (List.replicate i s) := by simp [strs]
theorem strs_take : (strs ss).take i = strs (ss.take i) := by simp [strs, List.map_take]
theorem strs_drop : (strs ss).drop i = strs (ss.drop i) := by simp [strs, List.map_drop]
theorem strs_er : (strs ss).map er2 = strs ss := by simp [strs, er2, er1]
theorem strs_cl : clL (strs ss) = true := by simp [clL_all, strs, V.cl]
theorem strs_sc : scL (strs ss) = true := by simp [scL_all, strs, V.sc]
theorem strs_no : (strs ss).all V.noOwn = true := by simp [strs, V.noOwn, V.isOwn]
theorem strs_ct : (strs ss).all ct2 = true := by simp [strs, ct2, ct1, V.cl]
end
/-- A function that returns a slice of its own returns new memory. -/
theorem Fn.of_H {P : Program} {J : Inv} {f : FuncId} {args : List V} {nx : Nat} {res r : V} {post : List (Nat × Ob)} (h : FnH P J f args [] 0 res post nx) (hr : (fz post res).1 = r) (hl : AllP (fz post res).2) (hc : r.cl = true) (hs0 : res.sc = true) (hp : scH post = true) : Fn P J f true args r := by
  refine ⟨h.1, fun w F vs hI hF hlen hvs => ?_⟩
  have hm : Mem J [] 0 (.bare F) w := ⟨hF, fun _ _ => ⟨rfl, rfl⟩, fun m o hm => by cases m <;> simp [Hget, Hroot, Hchild] at hm, fun m m' o o' g hm => by cases m <;> simp [Hget, Hroot, Hchild] at hm, fun k y hk => by simp [Cx.bare] at hk, hI⟩
  refine (h.2 w (.bare F) vs hm hlen hvs).mono fun e w' ⟨v, G, he, hev, hle, hkeep, hmem, hown, hrep⟩ => ?_
  have hnB : ∀ b, ¬ Blk (Cx.bare F) [] b := fun b ⟨m, ob, hm, _⟩ => by cases m <;> simp [Hget, Hroot, Hchild] at hm
  have hx : Ext w w' := ⟨hev.os, hev.tape, hev.output, hev.size, fun b hb => hev.block b hb (hnB b)⟩
  let J1 : Inv := ⟨fun _ _ => True, fun _ _ _ _ => trivial, ⟨fun _ => none, none, fun _ _ _ => none⟩, (fun _ _ _ _ _ h => by cases h), fun g v h => by cases h⟩
  let G1 : Cx := ⟨fun b => G.F b ∨ b < w.heap.size, G.O, G.W⟩
  have hsat : Sat ⟨J1, w', fun _ => False, 0, fun _ => True, G1⟩ ⟨[], post, nx⟩ G1 { tmps := #[], defers := [] } w' :=
    ⟨Ev.refl _ _, fun t v ht => by simp [En.get] at ht, rfl, rfl, fun b hb => hb.elim, fun b hb => hb.elim (hmem.flt b) fun h => Nat.lt_of_lt_of_le h hev.size, hmem.nx,
      fun m o hm => scO_free (hmem.own m o hm) (scH_get hp hm) (fun _ _ h => h) (fun _ _ h => h) fun b hb => .inl hb, fun _ _ _ _ _ => .inr trivial, fun _ _ _ _ _ h => h,
      fun m m' o o' g hm hm' hg hg' => hmem.sep m m' o o' g hm hm' (by cases o <;> exact hg) (by cases o' <;> exact hg'), hmem.wsl, Cx.Le.refl _ _, trivial⟩
  have hv : Rep w' G1 res v := hrep.free (fun _ _ h => h) (fun _ _ h => h) hs0
  have h1 := fz_ok hsat (ks := rts res) hv hl fun k hk => hk
  rw [hr] at h1
  refine ⟨v, he, hx, (h1.bare hc).of_bare fun b hb => .inl ⟨.inr ?_, fun ⟨m, ob, _, h2, h3⟩ => ?_⟩⟩
  · rcases hb with hb | hb
    · exact hF b hb
    · exact hb.2
  · have hlt : b < w.heap.size := by
      rcases hb with hb | hb
      · exact hF b hb
      · exact hb.2
    rcases hown m ob b h2 (by cases ob <;> exact h3) with h | h
    · exact hnB b h
    · omega
end Go.Proofs.YtbjfhnbgiajnjaaDoor
