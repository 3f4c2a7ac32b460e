/- The reference of polynomials: the walks of Of and Divide; the reference of checksums: bits, Linear, Shift, Update, Sum. The reference of checksums: the walk of bits. The reference of checksums: the walks of Linear, Shift, Update, Sum. -/
import Derived.Test.YtmjigpnpcacefaaDoorOwnV
namespace Go.Proofs.YtmjigpnpcacefaaDoor
open Go Go.RowKit Go.Shelf

def lenOf : Value → Nat
  | .slice _ n _ => n
  | _ => 0
theorem rem2_u64 (p k : Nat) (_h : p < 18446744073709551616) : ((p : Int) / 2 ^ k).tmod 2 = ((p.testBit k).toNat : Int) := by
  have e : ((p : Int) / 2 ^ k) = ((p / 2 ^ k : Nat) : Int) := by simp
  rw [e, Int.tmod_eq_emod_of_nonneg (Int.natCast_nonneg _), Nat.testBit_eq_decide_div_mod_eq]
  rcases Nat.mod_two_eq_zero_or_one (p / 2 ^ k) with h | h
  · rw [h]; simp; omega
  · rw [h]; simp; omega


theorem coeffs_one : coeffs 1 = [1] := rfl
theorem coeffs_zero : coeffs 0 = [] := rfl

end Go.Proofs.YtmjigpnpcacefaaDoor
namespace Go.Proofs.YtmjigpnpcacefaaDoor
open Go Go.RowKit Go.Shelf

/-- The bits from c on. -/
def part (X N c : Nat) : List Nat := (List.range N).map fun i => if c ≤ i then (X.testBit i).toNat else 0
theorem part_length (X N c : Nat) : (part X N c).length = N := by simp [part]
theorem part_all (X N : Nat) : part X N N = List.replicate N 0 := by
  apply List.ext_getElem
  · simp [part]
  · intro i h1 h2
    rw [part_length] at h1
    simp [part]
    omega
theorem part_set (X N c : Nat) (_h : c < N) : (part X N (c + 1)).set c (X.testBit c).toNat = part X N c := by
  apply List.ext_getElem
  · simp [part]
  · intro i h1 h2
    rw [part_length] at h2
    rw [List.getElem_set]
    simp only [part, List.getElem_map, List.getElem_range]
    by_cases e : c = i
    · subst e; simp
    · by_cases h3 : c ≤ i
      · simp [e, h3, show c + 1 ≤ i by omega]
      · simp [e, h3, show ¬ c + 1 ≤ i by omega]
theorem part_low (X N c : Nat) (h : ∀ i, i < c → X.testBit i = false) : part X N c = bitsN X N := by
  apply List.ext_getElem
  · simp [part, bitsN]
  · intro i h1 h2
    simp only [part, bitsN, List.getElem_map, List.getElem_range]
    by_cases h3 : c ≤ i
    · simp [h3]
    · simp [h3, h i (by omega)]

/-- The polynomial of bytes, times x^32. -/
@[irreducible] def bp32 (xs : List Nat) : Nat := Gf.bpoly xs <<< 32
theorem bp32_bit (xs : List Nat) (i : Nat) : (bp32 xs).testBit i = (decide (32 ≤ i) && (Gf.bpoly xs).testBit (i - 32)) := by
  unfold bp32; rw [Nat.testBit_shiftLeft]
theorem bp32_len (xs : List Nat) : Gf.plen (bp32 xs) ≤ 8 * xs.length + 32 := by
  unfold bp32
  have := Gf.plen_shl_le (Gf.bpoly xs) 32
  have := Gf.plen_le.2 (Gf.bpoly_lt xs)
  omega
theorem byte_bit (x j : Nat) : ((x : Int) / 2 ^ j).tmod 2 = ((x.testBit j).toNat : Int) := by
  have e : ((x : Int) / 2 ^ j) = ((x / 2 ^ j : Nat) : Int) := by simp
  rw [e, Int.tmod_eq_emod_of_nonneg (Int.natCast_nonneg _), Nat.testBit_eq_decide_div_mod_eq]
  rcases Nat.mod_two_eq_zero_or_one (x / 2 ^ j) with h | h
  · rw [h]; simp; omega
  · rw [h]; simp; omega

end Go.Proofs.YtmjigpnpcacefaaDoor
namespace Go.Proofs.YtmjigpnpcacefaaDoor
open Go Go.RowKit Go.Shelf

theorem lin_bp32 (xs : List Nat) : Gf.lin xs = Gf.rev (Gf.pmod (bp32 xs) 4374732215) 32 := by
  unfold Gf.lin bp32 Gf.G; rfl



/-- One byte by the definition, as the reference reckons it. -/
theorem byteR_zero (c : Nat) : Gf.byteR c 0 = c / 256 ^^^ Gf.lin [c % 256] := by
  have := Gf.byteR_lin (c := c) (x := 0) (by decide)
  rwa [Nat.xor_zero] at this


end Go.Proofs.YtmjigpnpcacefaaDoor
