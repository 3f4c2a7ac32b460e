/- The reference of checksums: the walks of Linear, Shift, Update, Sum. -/
import Derived.Test.YtmjigpnpcacefaaDoorRefC
namespace Go.Proofs.YtmjigpnpcacefaaDoor
open Go Go.RowKit Go.Shelf

theorem lin_bp32 (xs : List Nat) : Gf.lin xs = Gf.rev (Gf.pmod (bp32 xs) 4374732215) 32 := by
  unfold Gf.lin bp32 Gf.G; rfl



/-- One byte by the definition, as the reference reckons it. -/
theorem byteR_zero (c : Nat) : Gf.byteR c 0 = c / 256 ^^^ Gf.lin [c % 256] := by
  have := Gf.byteR_lin (c := c) (x := 0) (by decide)
  rwa [Nat.xor_zero] at this


end Go.Proofs.YtmjigpnpcacefaaDoor
