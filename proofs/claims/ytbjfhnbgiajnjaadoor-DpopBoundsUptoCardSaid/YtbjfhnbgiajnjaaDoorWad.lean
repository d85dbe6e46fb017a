/- Memory handed over in which a nil slice stands for an empty one. -/
import Derived.Test.YtbjfhnbgiajnjaaDoorWT
namespace Go.Proofs.YtbjfhnbgiajnjaaDoor
open Go.RowKit
theorem FnH.adopt {P : Program} {J : Inv} {f : FuncId} {args : List V} {pre pre' post : List (Nat × Ob)} {nx nx' nx2 : Nat} {res : V} (ad : List Ad) (h : FnH P J f args pre' nx' res post nx2) (ha : AdSub ad ⟨enOf 0 args, pre, nx⟩ ⟨enOf 0 args, pre', nx'⟩) : FnH P J f args pre nx res post nx2 := by
  refine ⟨h.1, fun w F vs hM hlen hvs => ?_⟩
  have hs0 : Sat ⟨J, w, fun b => F.F b ∧ ¬ Blk F pre b, vs.length, Blk F pre, F⟩ ⟨enOf 0 args, pre, nx⟩ F { tmps := vs.toArray, defers := [] } w := by
    refine ⟨Ev.refl _ w, fun t v ht => ?_, rfl, by simp, fun b hb => hb.1, hM.flt, hM.nx, hM.own, fun k ob g hk hg => .inr ⟨k, ob, hk, hg⟩, fun k ob g hk hg hF => hF.2 ⟨k, ob, hk, hg⟩, hM.sep, hM.wsl, Cx.Le.refl w _, hM.inv⟩
    obtain ⟨_, h1⟩ := enOf_get args 0 t v ht
    simp only [Nat.sub_zero] at h1
    have hlt : t < args.length := (List.getElem?_eq_some_iff.1 h1).1
    have hlt' : t < vs.length := by omega
    refine ⟨by simp; omega, ?_⟩
    have hg : vs[t]? = some vs[t] := List.getElem?_eq_getElem hlt'
    have := hvs t v _ h1 hg
    simpa [Array.getD_eq_getD_getElem?, hlt'] using this
  obtain ⟨G, hG⟩ := hs0.adsub ha
  have hB : ∀ g, Blk G pre' g → Blk F pre g ∨ w.heap.size ≤ g := fun g ⟨k, ob, h1, h2⟩ => (hG.own2 k ob g h1 h2).symm
  have hB2 : ∀ b, F.F b → ¬ Blk F pre b → ¬ Blk G pre' b := fun b h1 h2 ⟨k, ob, h3, h4⟩ => hG.own3 k ob b h3 h4 ⟨h1, h2⟩
  refine (h.2 w G vs ⟨hG.flt, hG.nx, hG.own, hG.sep, hG.wsl, hG.inv⟩ hlen fun i v y h1 h2 => ?_).mono fun e w' ⟨v, G1, he, hev, hle, hkeep, hmem, hown, hrep⟩ => ?_
  · have hlt : i < vs.length := (List.getElem?_eq_some_iff.1 h2).1
    have h3 : (enOf 0 args).get i = some v := by
      have key : ∀ (l : List V) (k j : Nat), (enOf k l).get (k + j) = l[j]? := by
        intro l
        induction l with
        | nil => intro k j; simp [enOf, En.get]
        | cons u r ih =>
          intro k j
          cases j with
          | zero => simp [enOf, En.get]
          | succ j =>
            simp only [enOf, En.get]
            rw [if_neg (by omega), show k + (j + 1) = k + 1 + j from by omega, ih]; simp
      have := key args 0 i
      simp only [Nat.zero_add] at this
      rw [this, h1]
    have := (hG.env i v h3).2
    have e : vs[i]? = some vs[i] := List.getElem?_eq_getElem hlt
    rw [e] at h2
    obtain rfl : vs[i] = y := by simpa using h2
    simpa [Array.getD_eq_getD_getElem?, hlt] using this
  · refine ⟨v, G1, he, ⟨hev.os, hev.tape, hev.output, hev.size, fun b hb hn => hev.block b hb fun hx => (hB b hx).elim hn fun h => by omega⟩, hG.le.trans hle (Nat.le_refl _), fun b h1 h2 => hkeep b (hG.fold b ⟨h1, h2⟩) (hB2 b h1 h2), hmem, fun k ob g h1 h2 => ?_, hrep⟩
    rcases hown k ob g h1 h2 with h | h
    · exact hB g h
    · exact .inr h
/-- A function that is handed nothing over, with a result that only reads. -/
theorem Fn.of_plain {P : Program} {J : Inv} {f : FuncId} {args : List V} {nx : Nat} {res : V} {post : List (Nat × Ob)} (h : FnH P J f args [] 0 res post nx) (hc : res.cl = true) : Fn P J f false args res := by
  refine ⟨h.1, fun w F vs hI hF hlen hvs => ?_⟩
  have hm : Mem J [] 0 (.bare F) w := ⟨hF, fun _ _ => ⟨rfl, rfl⟩, fun m o hm => by cases m <;> simp [Hget, Hroot, Hchild] at hm, fun m m' o o' g hm => by cases m <;> simp [Hget, Hroot, Hchild] at hm, fun k y hk => by simp [Cx.bare] at hk, hI⟩
  refine (h.2 w (.bare F) vs hm hlen hvs).mono fun e w' ⟨v, G, he, hev, hle, hkeep, hmem, hown, hrep⟩ => ?_
  have hnB : ∀ b, ¬ Blk (Cx.bare F) [] b := fun b ⟨m, ob, hm, _⟩ => by cases m <;> simp [Hget, Hroot, Hchild] at hm
  refine ⟨v, he, ⟨hev.os, hev.tape, hev.output, hev.size, fun b hb => hev.block b hb (hnB b)⟩, (hrep.bare hc).of_bare fun b hb => .inl ?_⟩
  rcases hb with hb | ⟨hb, _⟩
  · exact hkeep b hb (hnB b)
  · cases hb
end Go.Proofs.YtbjfhnbgiajnjaaDoor
