/- What poly.Irreducible accepts is irreducible. -/
import Derived.Test.YtidkjcflppbpdaaDoorOrder
import Derived.Test.YtidkjcflppbpdaaDoorIrrT
namespace Go.Proofs.YtidkjcflppbpdaaDoor
open Go

theorem irrL_all (p x : Nat) : ∀ k a, irrL p x k a = true → ∀ j, j < k → Gf.pgcd p (Gf.sqn p (j + 1) a ^^^ x) = 1
  | 0, _, _, j, hj => by omega
  | k + 1, a, h, j, hj => by
    unfold irrL at h
    by_cases h1 : Gf.pgcd p (Gf.pmod (Gf.pmul a a) p ^^^ x) = 1
    · rw [if_pos h1] at h
      match j with
      | 0 => exact h1
      | j + 1 => exact irrL_all p x k _ h j (by omega)
    · rw [if_neg h1] at h
      cases h
theorem irrB_product_le {x y : Nat} (hx : 2 ≤ Gf.plen x) (hl : Gf.plen x ≤ Gf.plen y) : irrB (Gf.pmul x y) = false := by
  obtain ⟨j, hj, hne⟩ := Gf.product_fails hx hl
  cases h : irrB (Gf.pmul x y) with
  | false => rfl
  | true =>
    unfold irrB at h
    by_cases h2 : Gf.plen (Gf.pmul x y) < 2
    · rw [if_pos h2] at h; cases h
    · rw [if_neg h2] at h
      exact absurd (irrL_all _ _ _ _ h j hj) hne
theorem irrB_product {x y : Nat} (hx : 2 ≤ Gf.plen x) (hy : 2 ≤ Gf.plen y) : irrB (Gf.pmul x y) = false := by
  rcases Nat.le_total (Gf.plen x) (Gf.plen y) with h | h
  · exact irrB_product_le hx h
  · rw [Gf.pmul_comm]; exact irrB_product_le hy h
theorem irr_of_irrB {p : Nat} (h : irrB p = true) : Gf.Irr p := by
  have h2 : 2 ≤ Gf.plen p := by
    refine Nat.le_of_not_lt fun hlt => ?_
    unfold irrB at h
    rw [if_pos hlt] at h
    cases h
  refine ⟨h2, fun a ha hd => Classical.byContradiction fun hn => ?_⟩
  have hp : p ≠ 0 := fun e => by rw [e, Gf.plen_zero] at h2; omega
  have e := Gf.pdiv_pmod p ha
  rw [hd, Nat.xor_zero] at e
  have hq : Gf.pdiv p a ≠ 0 := fun e' => by rw [e', Gf.pmul_zero_left] at e; exact hp e
  have l := Gf.plen_pmul hq ha
  rw [← e] at l
  have p1 := Gf.plen_pos hq
  have p2 := Gf.plen_pos ha
  have n1 : Gf.plen a ≠ 1 := fun e => hn (.inl e)
  have n2 : Gf.plen a ≠ Gf.plen p := fun e => hn (.inr e)
  have := irrB_product (x := Gf.pdiv p a) (y := a) (by omega) (by omega)
  rw [← e, h] at this
  cases this
end Go.Proofs.YtidkjcflppbpdaaDoor
