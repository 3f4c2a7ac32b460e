/- The walk of crc.Damages. -/
import Derived.Test.YtmjigpnpcacefaaDoorFlip
import Derived.Test.YtmjigpnpcacefaaDoorFrame
namespace Go.Proofs.YtmjigpnpcacefaaDoor
open Go Go.RowKit Go.Shelf

/-- What Damages answers: found, and the error's number. -/
def damOk (n : Int) (l : List Int) : Prop := ∀ k ∈ l, 0 ≤ k ∧ k < 8 * n
instance (n : Int) (l : List Int) : Decidable (damOk n l) := inferInstanceAs (Decidable (∀ k ∈ l, 0 ≤ k ∧ k < 8 * n))
def damB (n : Int) (l : List Int) : Bool := if n < 4 ∨ 16777216 < n ∨ ¬ damOk n l ∨ 4096 < l.length then false else !decide (Gf.bitvs n.toNat (l.map Int.toNat) = 0)
def damE (n : Int) (l : List Int) : Int := if n < 4 ∨ 16777216 < n ∨ ¬ damOk n l then 2 else if 4096 < l.length then 5 else 0

theorem ReadsI.getMem {xs : List Int} {i : Nat} (h : i < xs.length) : xs[i]?.getD 0 ∈ xs := by
  rw [List.getElem?_eq_getElem h]; exact List.getElem_mem h


end Go.Proofs.YtmjigpnpcacefaaDoor
