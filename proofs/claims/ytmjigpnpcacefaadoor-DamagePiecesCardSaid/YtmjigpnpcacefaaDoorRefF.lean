/- The reference of checksums: the walks of Bit and Damages. -/
import Derived.Test.YtmjigpnpcacefaaDoorDam
import Derived.Test.YtmjigpnpcacefaaDoorOpen
namespace Go.Proofs.YtmjigpnpcacefaaDoor
open Go Go.RowKit Go.Shelf


theorem bytes_zeros (n : Nat) : Bytes (List.replicate n 0) := fun x hx => by rw [(List.mem_replicate.1 hx).2]; decide
theorem lin_flip (n k : Nat) (h : k / 8 < n) : Gf.lin (Gf.flip (List.replicate n 0) k) = Gf.bitv n k := by
  have h2 := Gf.run_flip 0 (List.replicate n 0) k (by simpa using h)
  rw [Gf.lin_eq _ (Gf.bytes_flip (bytes_zeros n) k), h2, Gf.run_zeros, Gf.stepN_zero, Nat.zero_xor, List.length_replicate]



theorem sealedB_zeros (m : Nat) : sealedB (Gf.sealB (List.replicate m 0)) = true := by
  have hb : Bytes (Gf.sealB (List.replicate m 0)) := Bytes.append (bytes_zeros m) (bytes_four _)
  have hl : (Gf.sealB (List.replicate m 0)).length = m + 4 := by simp [Gf.sealB, Gf.four]
  rw [← sealedB_eq _ hb (by omega), hl, show m + 4 - 4 = m by omega]
  have : (Gf.sealB (List.replicate m 0)).take m = List.replicate m 0 := by
    unfold Gf.sealB
    rw [List.take_append_of_le_length (by simp), List.take_of_length_le (by simp)]
  rw [this]; simp

end Go.Proofs.YtmjigpnpcacefaaDoor
