/- One bit of a slice of the call's own is changed: what a walk needs. -/
import Derived.Test.YtomddpplhllgcaaDoorLong
namespace Go.Proofs.YtomddpplhllgcaaDoor
open Go Go.RowKit Go.Shelf

theorem mem_cast (q : Nat) (l : List Nat) : ((q : Int) ∈ l.map fun (y : Nat) => (y : Int)) ↔ q ∈ l := by
  rw [List.mem_map]
  constructor
  · rintro ⟨y, hy, e⟩
    have : y = q := by omega
    exact this ▸ hy
  · exact fun h => ⟨q, h, rfl⟩
/-- One bit of a slice of the call's own is changed: what the walk needs. -/
theorem flip_step {w : World} {base : Nat} {ac : Option Addr} {lc cc z : Nat} {F : List Nat} (hoc : Owns .u8 5 w base (.slice ac lc cc) F) (hF : Bytes F) (hz : z < 8 * lc) :
    ∃ g x q : Nat, ac = some ⟨g, 0, none⟩ ∧ base ≤ g ∧ g < w.heap.size ∧ w.cell? ⟨g, z / 8, none⟩ = some (.int .u8 (x : Int)) ∧ w.frozen? ⟨g, z / 8, none⟩ = false ∧ x < 256 ∧ bits .xor .u8 (x : Int) (2 ^ (z % 8) % 256) = (q : Int) ∧
      Hid (Owns .u8 5 (w.setCell ⟨g, z / 8, none⟩ (.int .u8 (q : Int))) base (.slice (some ⟨g, 0, none⟩) lc cc) (Gf.flip F z)) ∧ (z : Int) / 8 < (lc : Int) ∧ ((z : Int) / 8).toNat = z / 8 ∧ (z : Int).tdiv 8 = (z : Int) / 8 ∧ lc ≤ cc ∧ cc ≤ 9223372036854775807 := by
  have hz8 : z / 8 < lc := by omega
  obtain ⟨g, rfl, hg1, hg2, hm, hm2, hm3, hcell, hfr, hset⟩ := hoc.at hz8
  have hx1 := hF.get (z / 8)
  have hp : ∀ i : Nat, i < 8 → (2 : Int) ^ i % 256 = ((2 ^ i : Nat) : Int) := by decide
  have hpk := hp (z % 8) (by omega)
  have hxx := u8_xor_nat (F[z / 8]?.getD 0) (2 ^ (z % 8)) hx1 (Gf.pow_lt8 (by omega))
  rw [← hpk] at hxx
  refine ⟨g, F[z / 8]?.getD 0, _, rfl, hg1, hg2, hcell, hfr, hx1, hxx, Lib.hid ?_, by omega, by omega, Int.tdiv_eq_ediv_of_nonneg (by omega), hm2, hm3⟩
  have := hset ((F[z / 8]?.getD 0 ^^^ 2 ^ (z % 8) : Nat) : Int) (by omega)
  rw [Int.toNat_natCast] at this
  exact this
end Go.Proofs.YtomddpplhllgcaaDoor
