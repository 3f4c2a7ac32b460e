/- A product fails the test by squares of x: plain mathematics. -/
import Derived.Test.YtidkjcflppbpdaaDoorIrr
namespace Gf
def sqn (p : Nat) : Nat → Nat → Nat
  | 0, a => a
  | j + 1, a => sqn p j (pmod (pmul a a) p)
theorem sqn_x {p : Nat} (hp : p ≠ 0) : ∀ j n, sqn p j (pmod (xpow n) p) = pmod (xpow (n * 2 ^ j)) p
  | 0, n => by rw [Nat.pow_zero, Nat.mul_one]; rfl
  | j + 1, n => by
    show sqn p j (pmod (pmul (pmod (xpow n) p) (pmod (xpow n) p)) p) = _
    rw [pmod_mul_left _ _ hp, pmod_mul_right _ _ hp, xpow_add, sqn_x hp j (n + n)]
    congr 2
    rw [Nat.pow_succ, Nat.add_mul, ← Nat.mul_assoc]
    omega
theorem irr_factor : ∀ n a, plen a ≤ n → 2 ≤ plen a → ∃ f, Irr f ∧ pmod a f = 0 ∧ plen f ≤ plen a
  | 0, a, h, h2 => by omega
  | n + 1, a, h, h2 => by
    have ha : a ≠ 0 := fun e => by rw [e, plen_zero] at h2; omega
    by_cases hi : Irr a
    · exact ⟨a, hi, pmod_self ha, Nat.le_refl _⟩
    · have : ∃ g, g ≠ 0 ∧ pmod a g = 0 ∧ plen g ≠ 1 ∧ plen g ≠ plen a := by
        refine Classical.byContradiction fun hno => hi ⟨h2, fun g hg hd => ?_⟩
        refine Classical.byContradiction fun hn => hno ⟨g, hg, hd, fun e => hn (.inl e), fun e => hn (.inr e)⟩
      obtain ⟨g, hg, hd, h3, h4⟩ := this
      have e := pdiv_pmod a hg
      rw [hd, Nat.xor_zero] at e
      have hq : pdiv a g ≠ 0 := fun e' => by rw [e', pmul_zero_left] at e; exact ha e
      have l := plen_pmul hq hg
      rw [← e] at l
      have p1 := plen_pos hq
      have p2 := plen_pos hg
      obtain ⟨f, hf, hfg, hfl⟩ := irr_factor n g (by omega) (by omega)
      exact ⟨f, hf, by rw [e]; exact pmod_mul_zero hf.ne hfg, by omega⟩
theorem Irr.frob {f : Nat} (h : Irr f) : pmod (xpow (2 ^ (plen f - 1))) f = pmod 2 f := by
  have hs : xpow (2 ^ (plen f - 1)) = pmul (xpow (2 ^ (plen f - 1) - 1)) 2 := by
    rw [show (2 : Nat) = xpow 1 from rfl, xpow_add]
    congr 1
    have := Nat.two_pow_pos (plen f - 1)
    show 2 ^ (plen f - 1) = 2 ^ (plen f - 1) - 1 + 1
    omega
  rw [hs]
  by_cases hx : pmod 2 f = 0
  · rw [← pmod_mul_right _ _ h.ne, hx, pmul_zero_right, pmod_zero h.ne]
  · rw [← pmod_mul_left _ _ h.ne, h.fermat hx, pmul_one_left]
theorem product_fails {x y : Nat} (hx : 2 ≤ plen x) (hl : plen x ≤ plen y) :
    ∃ j, j < (plen (pmul x y) - 1) / 2 ∧ pgcd (pmul x y) (sqn (pmul x y) (j + 1) (pmod 2 (pmul x y)) ^^^ pmod 2 (pmul x y)) ≠ 1 := by
  have hx0 : x ≠ 0 := fun e => by rw [e, plen_zero] at hx; omega
  have hy0 : y ≠ 0 := fun e => by rw [e, plen_zero] at hl; omega
  obtain ⟨f, hf, hfx, hfl⟩ := irr_factor _ x (Nat.le_refl _) hx
  have hz0 := pmul_ne_zero hx0 hy0
  have hzl := plen_pmul hx0 hy0
  have hzf : pmod (pmul x y) f = 0 := by rw [pmul_comm]; exact pmod_mul_zero hf.ne hfx
  obtain ⟨z, HZ⟩ : ∃ z, pmul x y = z := ⟨_, rfl⟩
  rw [HZ] at hz0 hzl hzf ⊢
  have h2 := hf.1
  refine ⟨plen f - 2, by omega, fun he => ?_⟩
  have hj : plen f - 2 + 1 = plen f - 1 := by omega
  have ht : pmod (sqn z (plen f - 2 + 1) (pmod 2 z) ^^^ pmod 2 z) f = 0 := by
    rw [hj, show (2 : Nat) = xpow 1 from rfl, sqn_x hz0, pmod_xor _ _ hf.ne, pmod_rem hz0 hf.ne hzf, pmod_rem hz0 hf.ne hzf, Nat.one_mul, show xpow 1 = 2 from rfl, hf.frob, Nat.xor_self]
  have := pgcd_common hf.ne hzf ht
  rw [he, pmod_small hf.ne (by show 1 < plen f; omega)] at this
  cases this
end Gf
