/- The reference of polynomials as lists of coefficients: the walks of trim, Sum, Of, Divide. -/
import Derived.Test.YtmjigpnpcacefaaDoorOwn
namespace Go.Proofs.YtmjigpnpcacefaaDoor
open Go Go.RowKit Go.Shelf

theorem info_int : (Tryd.prog.info? 3).map (fun i => (i.zero, i.size, i.bytes)) = some (some (.int .i64 0), 1, 8) := by kernel_rfl
theorem info_u8 : (Tryd.prog.info? 5).map (fun i => (i.zero, i.size, i.bytes)) = some (some (.int .u8 0), 1, 1) := by kernel_rfl

/-- The bits of a number, as many as are asked. -/
def bitsN (p n : Nat) : List Nat := (List.range n).map fun i => (p.testBit i).toNat
theorem bitsN_length (p n : Nat) : (bitsN p n).length = n := by simp [bitsN]
theorem bitsN_get (p n i : Nat) (h : i < n) : (bitsN p n)[i]?.getD 0 = (p.testBit i).toNat := by simp [bitsN, h]
theorem bitsN_succ (p n : Nat) : bitsN p (n + 1) = bitsN p n ++ [(p.testBit n).toNat] := by simp [bitsN, List.range_succ]
theorem bitsN_eq {p : Nat} {xs : List Nat} {n : Nat} (hl : xs.length = n) (h : ∀ i, i < n → xs[i]?.getD 0 = (p.testBit i).toNat) : xs = bitsN p n := by
  apply List.ext_getElem
  · rw [hl, bitsN_length]
  · intro i h1 h2
    have := h i (by omega)
    simp only [h1, getElem?_pos, Option.getD_some] at this
    simp [bitsN, this]
/-- The coefficients of a polynomial. -/
def coeffs (p : Nat) : List Nat := bitsN p (Gf.plen p)
theorem coeffs_length (p : Nat) : (coeffs p).length = Gf.plen p := bitsN_length _ _
theorem toNat_le (b : Bool) : b.toNat ≤ 1 := by cases b <;> decide


theorem bit_shl (b k i : Nat) : (b <<< k).testBit i = (decide (k ≤ i) && b.testBit (i - k)) := by rw [Nat.testBit_shiftLeft]
theorem xor_toNat (a b : Bool) : (a ^^ b).toNat = (a.toNat + b.toNat) % 2 := by cases a <;> cases b <;> rfl

end Go.Proofs.YtmjigpnpcacefaaDoor
