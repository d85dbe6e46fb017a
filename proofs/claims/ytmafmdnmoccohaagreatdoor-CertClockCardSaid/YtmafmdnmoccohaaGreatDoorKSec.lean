/- x509.Seconds: the walks. -/
import Derived.Test.YtmafmdnmoccohaaGreatDoorKFn
namespace Go.Proofs.YtmafmdnmoccohaaGreatDoor
open Go.RowKit
set_option linter.unusedSimpArgs false
set_option maxRecDepth 100000
def tlvC (tag : Int) (l : List UInt8) (kids : Int) : V := .st [.val (.int .i64 tag), .by l, .val (.int .i64 kids)]
def GK2f : FuncId → List V → Option (List Prop × Bool × V) := fun f args =>
  if f = 13 then match args with
    | [.str s] => some ([0 < s.length, s.length ≤ 18], false, .i (numF s))
    | _ => none
  else if f = 14 then match args with
    | [.val (.int .i64 n), .val (.int .i64 a), .val (.int .i64 b)] => some ([], false, .bb (decide (a ≤ n) && decide (n ≤ b)))
    | _ => none
  else if f = 15 then match args with
    | [.val (.int .i64 y), .val (.int .i64 m), .val (.int .i64 d)] => some ([1 ≤ y, y ≤ 10000, 1 ≤ m, m ≤ 13, 0 ≤ d, d ≤ 100], false, .i (daysF y m d))
    | _ => none
  else none
def GK2 : Sig := ⟨JC, kdf, GK2f, noH, 0⟩
theorem GK2_ok : SigOk Tryz.prog GK2 := by
  refine .plain fun f args l fr r h hl => ?_
  change GK2f f args = some (l, fr, r) at h
  unfold GK2f at h
  split at h
  · rename_i hf; subst hf
    split at h
    · obtain ⟨rfl, rfl, rfl⟩ := ksome_tri h; exact number_fn _ (hl _ (by simp)) (hl _ (by simp))
    · exact absurd h (by simp)
  · split at h
    · rename_i hf; subst hf
      split at h
      · obtain ⟨rfl, rfl, rfl⟩ := ksome_tri h; exact within_fn _ _ _
      · exact absurd h (by simp)
    · split at h
      · rename_i hf; subst hf
        split at h
        · rename_i y m d
          obtain ⟨rfl, rfl, rfl⟩ := ksome_tri h
          exact days_fn y m d (hl _ (by simp)) (hl (y ≤ 10000) (by simp)) (hl (1 ≤ m) (by simp)) (hl (m ≤ 13) (by simp)) (hl (0 ≤ d) (by simp)) (hl (d ≤ 100) (by simp))
        · exact absurd h (by simp)
      · exact absurd h (by simp)
end Go.Proofs.YtmafmdnmoccohaaGreatDoor
