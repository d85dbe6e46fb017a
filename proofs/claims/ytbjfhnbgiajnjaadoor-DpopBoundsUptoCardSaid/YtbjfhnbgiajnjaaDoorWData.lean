/- Bytes as numbers. Plain Lean. -/
namespace Go.Proofs.YtbjfhnbgiajnjaaDoor
/-- The byte at a place, as a number (0 behind the end). -/
def byteAt (l : List UInt8) (i : Nat) : Int := ((l.getD i 0).toNat : Int)
theorem byteAt_lo (l : List UInt8) (i : Nat) : 0 ≤ byteAt l i := by unfold byteAt; omega
theorem byteAt_hi (l : List UInt8) (i : Nat) : byteAt l i < 256 := by unfold byteAt; have := (l.getD i 0).toNat_lt; omega
theorem byteAt_cut (l : List UInt8) (a n i : Nat) (h : i < n) : byteAt ((l.drop a).take n) i = byteAt l (a + i) := by
  unfold byteAt; simp [List.getD_eq_getElem?_getD, h]
/-- A number as a byte. -/
def u8 (n : Int) : UInt8 := UInt8.ofNat n.toNat
theorem u8_toNat (n : Int) (h0 : 0 ≤ n) (h1 : n < 256) : ((u8 n).toNat : Int) = n := by
  unfold u8
  rw [UInt8.toNat_ofNat']
  omega
end Go.Proofs.YtbjfhnbgiajnjaaDoor
