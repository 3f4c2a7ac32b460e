/- The reference of polynomials: the walks of Of and Divide; the reference of checksums: bits, Linear, Shift, Update, Sum. -/
import Derived.Test.YtmjigpnpcacefaaDoorRefA
namespace Go.Proofs.YtmjigpnpcacefaaDoor
open Go Go.RowKit Go.Shelf

def lenOf : Value → Nat
  | .slice _ n _ => n
  | _ => 0
theorem rem2_u64 (p k : Nat) (_h : p < 18446744073709551616) : ((p : Int) / 2 ^ k).tmod 2 = ((p.testBit k).toNat : Int) := by
  have e : ((p : Int) / 2 ^ k) = ((p / 2 ^ k : Nat) : Int) := by simp
  rw [e, Int.tmod_eq_emod_of_nonneg (Int.natCast_nonneg _), Nat.testBit_eq_decide_div_mod_eq]
  rcases Nat.mod_two_eq_zero_or_one (p / 2 ^ k) with h | h
  · rw [h]; simp; omega
  · rw [h]; simp; omega


theorem coeffs_one : coeffs 1 = [1] := rfl
theorem coeffs_zero : coeffs 0 = [] := rfl

end Go.Proofs.YtmjigpnpcacefaaDoor
