/- What the functions of DER come to, in plain Lean. -/
import Derived.Test.YtmafmdnmoccohaaGreatDoorDData
namespace Go.Proofs.YtmafmdnmoccohaaGreatDoor
/-- Is it a tag that may be? -/
def tagF (t : Int) : Bool := decide (0 ≤ t) && decide (t ≤ 255) && !(t % 32 == 31) && !(t == 16) && !(t == 17) && !(t == 33) && !(t == 34) && !(t == 35) && !(t == 37) && !(t == 38)
def innerF (t : Int) : Bool := t / 32 % 2 == 1
def beginsAt : List UInt8 → Nat → Bool
  | _, 0 => true
  | l, k + 1 => decide (byteAt l k < 128)
def groupsTo (l : List UInt8) (n : Nat) : Bool := (List.range n).all fun k => !(beginsAt l k && (byteAt l k == 128))
def groupsF (l : List UInt8) : Bool := decide (0 < l.length) && beginsAt l l.length && groupsTo l l.length
/-- Are they the contents of a primitive element with that tag? -/
def rightF (t : Int) (l : List UInt8) : Bool :=
  if t = 1 then (l.length : Int) == 1 && (byteAt l 0 == 0 || byteAt l 0 == 255)
  else if t = 2 then (l.length : Int) == 1 || (decide (1 < (l.length : Int)) && !(byteAt l 0 == 0 && decide (byteAt l 1 < 128)) && !(byteAt l 0 == 255 && decide (128 ≤ byteAt l 1)))
  else if t = 3 then (l.length : Int) == 1 && byteAt l 0 == 0 || decide (1 < (l.length : Int)) && decide (byteAt l 0 < 8) && (byteAt l (l.length - 1) % 2 ^ (byteAt l 0).toNat == 0)
  else if t = 5 then (l.length : Int) == 0
  else if t = 6 then groupsF l
  else true
def byteN (l : List UInt8) (i : Nat) : Nat := (l.getD i 0).toNat
theorem byteAt_N (l : List UInt8) (i : Nat) : byteAt l i = (byteN l i : Int) := rfl
/-- The number that bytes are, the greatest first; of those ahead of k. -/
def beV (l : List UInt8) : Nat → Nat
  | 0 => 0
  | k + 1 => beV l k * 256 + byteN l k
/-- Where the contents begin and end; is there an element? -/
def headF (l : List UInt8) (p q : Nat) : Nat × Nat × Bool :=
  if q < p + 2 then (0, 0, false)
  else if byteN l (p + 1) < 128 then (p + 2, p + 2 + byteN l (p + 1), decide (p + 2 + byteN l (p + 1) ≤ q))
  else if byteN l (p + 1) = 128 ∨ 132 < byteN l (p + 1) ∨ q < p + 2 + (byteN l (p + 1) - 128) ∨ byteN l (p + 2) = 0 ∨ (byteN l (p + 1) = 129 ∧ byteN l (p + 2) < 128) then (0, 0, false)
  else (p + 2 + (byteN l (p + 1) - 128), p + 2 + (byteN l (p + 1) - 128) + beV (l.drop (p + 2)) (byteN l (p + 1) - 128), decide (p + 2 + (byteN l (p + 1) - 128) + beV (l.drop (p + 2)) (byteN l (p + 1) - 128) ≤ q))
end Go.Proofs.YtmafmdnmoccohaaGreatDoor
