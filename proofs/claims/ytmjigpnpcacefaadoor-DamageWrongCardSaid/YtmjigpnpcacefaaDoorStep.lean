/- One bit of a slice of the call's own is changed: what a walk needs. -/
import Derived.Test.YtmjigpnpcacefaaDoorLong
namespace Go.Proofs.YtmjigpnpcacefaaDoor
open Go Go.RowKit Go.Shelf

theorem mem_cast (q : Nat) (l : List Nat) : ((q : Int) ∈ l.map fun (y : Nat) => (y : Int)) ↔ q ∈ l := by
  rw [List.mem_map]
  constructor
  · rintro ⟨y, hy, e⟩
    have : y = q := by omega
    exact this ▸ hy
  · exact fun h => ⟨q, h, rfl⟩
/-- One bit of a slice of the call's own is changed: what the walk needs. -/
theorem flip_step {w : World} {base : Nat} {ac : Option Addr} {lc cc z : Nat} {F : List Nat} (hoc : Owns .u8 5 w base (.slice ac lc cc) F) (hF : Bytes F) (hz : z < 8 * lc) :
    ∃ g x q : Nat, ac = some ⟨g, 0, none⟩ ∧ base ≤ g ∧ g < w.heap.size ∧ w.cell? ⟨g, z / 8, none⟩ = some (.int .u8 (x : Int)) ∧ w.frozen? ⟨g, z / 8, none⟩ = false ∧ x < 256 ∧ bits .xor .u8 (x : Int) (2 ^ (z % 8) % 256) = (q : Int) ∧
      Hid (Owns .u8 5 (w.setCell ⟨g, z / 8, none⟩ (.int .u8 (q : Int))) base (.slice (some ⟨g, 0, none⟩) lc cc) (Gf.flip F z)) ∧ (z : Int) / 8 < (lc : Int) ∧ ((z : Int) / 8).toNat = z / 8 ∧ (z : Int).tdiv 8 = (z : Int) / 8 ∧ lc ≤ cc ∧ cc ≤ 9223372036854775807 := by
  have hz8 : z / 8 < lc := by omega
  obtain ⟨g, rfl, hg1, hg2, hm, hm2, hm3, hcell, hfr, hset⟩ := hoc.at hz8
  have hx1 := hF.get (z / 8)
  have hp : ∀ i : Nat, i < 8 → (2 : Int) ^ i % 256 = ((2 ^ i : Nat) : Int) := by decide
  have hpk := hp (z % 8) (by omega)
  have hxx := u8_xor_nat (F[z / 8]?.getD 0) (2 ^ (z % 8)) hx1 (Gf.pow_lt8 (by omega))
  rw [← hpk] at hxx
  refine ⟨g, F[z / 8]?.getD 0, _, rfl, hg1, hg2, hcell, hfr, hx1, hxx, Lib.hid ?_, by omega, by omega, Int.tdiv_eq_ediv_of_nonneg (by omega), hm2, hm3⟩
  have := hset ((F[z / 8]?.getD 0 ^^^ 2 ^ (z % 8) : Nat) : Int) (by omega)
  rw [Int.toNat_natCast] at this
  exact this
theorem Owns.keepAt {k : IntKind} {e : TypeId} {w w' : World} {base n : Nat} {v : Value} {xs : List Nat} (h : Owns k e w base v xs) (hB : Below n w w') (hn : ∀ j, v.ownBlock = some j → j < n) : Owns k e w' base v xs := by
  obtain ⟨h1, h⟩ := h
  refine ⟨h1, ?_⟩
  rcases h with h | ⟨g, cap, cur, rfl, hb, hg, rest⟩
  · exact .inl h
  · exact .inr ⟨g, cap, cur, rfl, hb, (hB.block g (hn g rfl)).trans hg, rest⟩
theorem readsI_of {k : IntKind} {w : World} {v : Value} {ys : List Nat} (h : Reads k w v ys) : ReadsI k w v (ys.map fun (y : Nat) => (y : Int)) := by
  obtain ⟨a, cap, rfl, hl, hm, hc⟩ := h
  refine ⟨a, cap, by simp, by simpa using hl, hm, ?_⟩
  rcases hc with h | ⟨b, off, e, hcell⟩
  · exact .inl h
  · refine .inr ⟨b, off, e, fun i hi => ?_⟩
    have hi2 : i < ys.length := by simpa using hi
    rw [hcell i hi2]
    simp [hi2]
theorem and_bit32_beq (p k : Nat) (h : p < 4294967296) : (bits BinOp.and IntKind.u32 ((p : Int) / 2 ^ k) 1 == 1) = p.testBit k := by
  have e : ((p : Int) / 2 ^ k) = ((p / 2 ^ k : Nat) : Int) := by simp
  rw [e, show (1 : Int) = ((1 : Nat) : Int) from rfl, u32_and_nat _ _ (Nat.lt_of_le_of_lt (Nat.div_le_self _ _) h) (by decide), nat_mask1, Nat.testBit_eq_decide_div_mod_eq]
  rcases Nat.mod_two_eq_zero_or_one (p / 2 ^ k) with h | h <;> rw [h] <;> rfl
/-- What Damages says of bits that there are. -/
theorem dam_nat (n : Nat) (h1 : 4 ≤ n) (h2 : n ≤ 16777216) (ks : List Nat) (hk : ∀ k ∈ ks, k < 8 * n) (hl : ks.length ≤ 4096) :
    damB n (ks.map fun (y : Nat) => (y : Int)) = !decide (Gf.bitvs n ks = 0) ∧ damE n (ks.map fun (y : Nat) => (y : Int)) = 0 := by
  have ok : damOk n (ks.map fun (y : Nat) => (y : Int)) := by
    intro x hx
    obtain ⟨y, hy, rfl⟩ := List.mem_map.1 hx
    have := hk y hy
    omega
  have e : (ks.map fun (y : Nat) => (y : Int)).map Int.toNat = ks := by
    rw [List.map_map]; conv => rhs; rw [← List.map_id ks]
    exact List.map_congr_left fun x _ => rfl
  constructor
  · unfold damB; rw [if_neg (by simp [ok]; omega), e]; rfl
  · unfold damE; rw [if_neg (by simp [ok]; omega), if_neg (by simp; omega)]
end Go.Proofs.YtmjigpnpcacefaaDoor
