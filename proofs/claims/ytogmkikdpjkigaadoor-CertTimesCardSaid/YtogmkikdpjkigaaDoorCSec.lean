/- Seconds of both: the walks. -/
import Derived.Test.YtogmkikdpjkigaaDoorCFn
namespace Go.Proofs.YtogmkikdpjkigaaDoor
open Go.RowKit
set_option linter.unusedSimpArgs false
set_option maxRecDepth 100000
def tlvC (tag : Int) (l : List UInt8) (kids : Int) : V := .st [.val (.int .i64 tag), .by l, .val (.int .i64 kids)]
def G2f : FuncId → List V → Option (List Prop × Bool × V) := fun f args =>
  if f = 8 then match args with
    | [.str s] => some ([0 < s.length, s.length ≤ 18], false, .i (numF s))
    | _ => none
  else if f = 9 then match args with
    | [.val (.int .i64 n), .val (.int .i64 a), .val (.int .i64 b)] => some ([], false, .bb (decide (a ≤ n) && decide (n ≤ b)))
    | _ => none
  else if f = 10 then match args with
    | [.val (.int .i64 y), .val (.int .i64 m), .val (.int .i64 d)] => some ([1 ≤ y, y ≤ 10000, 1 ≤ m, m ≤ 13, 0 ≤ d, d ≤ 100], false, .i (daysF y m d))
    | _ => none
  else if f = 11 then match args with
    | [.by l, .val (.int .i64 i)] => some ([0 ≤ i, i + 2 ≤ (l.length : Int), l.length ≤ 140737488355328], false, .i (twoF l i.toNat))
    | _ => none
  else if f = 12 then match args with
    | [.val (.int .i64 y), .val (.int .i64 m)] => some ([0 ≤ y, y ≤ 100000], false, .i (monF y m))
    | _ => none
  else if f = 13 then match args with
    | [.val (.int .i64 y)] => some ([0 ≤ y, y ≤ 100000], false, .bb (leapF y))
    | _ => none
  else none
def G2 : Sig := ⟨JC, df, G2f, noH, 0⟩
theorem G2_ok : SigOk Tryd.prog G2 := by
  refine .plain fun f args l fr r h hl => ?_
  change G2f f args = some (l, fr, r) at h
  unfold G2f at h
  split at h
  · rename_i hf; subst hf
    split at h
    · obtain ⟨rfl, rfl, rfl⟩ := some_tri h; exact number_fn _ (hl _ (by simp)) (hl _ (by simp))
    · exact absurd h (by simp)
  · split at h
    · rename_i hf; subst hf
      split at h
      · obtain ⟨rfl, rfl, rfl⟩ := some_tri h; exact within_fn _ _ _
      · exact absurd h (by simp)
    · split at h
      · rename_i hf; subst hf
        split at h
        · rename_i y m d
          obtain ⟨rfl, rfl, rfl⟩ := some_tri h
          exact days_fn y m d (hl _ (by simp)) (hl (y ≤ 10000) (by simp)) (hl (1 ≤ m) (by simp)) (hl (m ≤ 13) (by simp)) (hl (0 ≤ d) (by simp)) (hl (d ≤ 100) (by simp))
        · exact absurd h (by simp)
      · split at h
        · rename_i hf; subst hf
          split at h
          · rename_i l0 i
            obtain ⟨rfl, rfl, rfl⟩ := some_tri h
            have h0 : (0 : Int) ≤ i := hl _ (by simp)
            have h1 : i + 2 ≤ (l0.length : Int) := hl _ (by simp)
            have h2 : l0.length ≤ 140737488355328 := hl _ (by simp)
            obtain ⟨i, rfl⟩ := Int.eq_ofNat_of_zero_le h0
            exact two_fn l0 i (by omega) h2
          · exact absurd h (by simp)
        · split at h
          · rename_i hf; subst hf
            split at h
            · rename_i y m
              obtain ⟨rfl, rfl, rfl⟩ := some_tri h
              exact Days_fn y m (hl (0 ≤ y) (by simp)) (hl (y ≤ 100000) (by simp))
            · exact absurd h (by simp)
          · split at h
            · rename_i hf; subst hf
              split at h
              · rename_i y
                obtain ⟨rfl, rfl, rfl⟩ := some_tri h
                exact leap_fn y (hl (0 ≤ y) (by simp)) (hl (y ≤ 100000) (by simp))
              · exact absurd h (by simp)
            · exact absurd h (by simp)
end Go.Proofs.YtogmkikdpjkigaaDoor
