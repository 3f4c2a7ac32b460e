/- What poly.Irreducible rejects has a divisor of at most half its degree (up to degree 16): plain mathematics. -/
import Derived.Test.YtidkjcflppbpdaaDoorIrrB
import Derived.Test.YtidkjcflppbpdaaDoorGcdP
namespace Go.Proofs.YtidkjcflppbpdaaDoor
open Go

theorem irrL_none (p x : Nat) : ∀ k a, irrL p x k a = false → ∃ j, j < k ∧ Gf.pgcd p (Gf.sqn p (j + 1) a ^^^ x) ≠ 1
  | 0, _, h => by cases h
  | k + 1, a, h => by
    unfold irrL at h
    by_cases h1 : Gf.pgcd p (Gf.pmod (Gf.pmul a a) p ^^^ x) = 1
    · rw [if_pos h1] at h
      obtain ⟨j, hj, hne⟩ := irrL_none p x k _ h
      exact ⟨j + 1, by omega, hne⟩
    · exact ⟨0, by omega, h1⟩
/-- The polynomials whose product is x^(2^i) + x. -/
def facs : Nat → List Nat
  | 1 => [2, 3]
  | 2 => [2, 3, 7]
  | 3 => [2, 3, 11, 13]
  | 4 => [2, 3, 7, 19, 25, 31]
  | 5 => [2, 3, 37, 41, 47, 55, 59, 61]
  | 6 => [2, 3, 7, 11, 13, 67, 73, 87, 91, 97, 103, 109, 115, 117]
  | 7 => [2, 3, 131, 137, 143, 145, 157, 167, 171, 185, 191, 193, 203, 211, 213, 229, 239, 241, 247, 253]
  | 8 => [2, 3, 7, 19, 25, 31, 283, 285, 299, 301, 313, 319, 333, 351, 355, 357, 361, 369, 375, 379, 391, 395, 397, 415, 419, 425, 433, 445, 451, 463, 471, 477, 487, 499, 501, 505]
  | _ => []
theorem facs_prod : ∀ i, 1 ≤ i → i ≤ 8 → Gf.prodP (facs i) = Gf.xpow (2 ^ i) ^^^ 2 := by
  intro i h1 h8
  have h : i = 1 ∨ i = 2 ∨ i = 3 ∨ i = 4 ∨ i = 5 ∨ i = 6 ∨ i = 7 ∨ i = 8 := by omega
  rcases h with rfl | rfl | rfl | rfl | rfl | rfl | rfl | rfl <;> decide +kernel
theorem facs_small : ∀ i, 1 ≤ i → i ≤ 8 → ∀ a ∈ facs i, a ≠ 0 ∧ a < 2 ^ (i + 1) := by
  intro i h1 h8
  have h : i = 1 ∨ i = 2 ∨ i = 3 ∨ i = 4 ∨ i = 5 ∨ i = 6 ∨ i = 7 ∨ i = 8 := by omega
  rcases h with rfl | rfl | rfl | rfl | rfl | rfl | rfl | rfl <;> decide +kernel
theorem irrB_div {p : Nat} (h2 : 2 ≤ Gf.plen p) (hl : Gf.plen p ≤ 17) (h : irrB p = false) : ∃ b, 2 ≤ b ∧ Gf.plen b - 1 ≤ (Gf.plen p - 1) / 2 ∧ Gf.pmod p b = 0 := by
  have hp : p ≠ 0 := fun e => by rw [e, Gf.plen_zero] at h2; omega
  unfold irrB at h
  rw [if_neg (by omega)] at h
  obtain ⟨j, hj, hne⟩ := irrL_none _ _ _ _ h
  obtain ⟨T, HT⟩ : ∃ T, Gf.sqn p (j + 1) (Gf.pmod 2 p) ^^^ Gf.pmod 2 p = T := ⟨_, rfl⟩
  rw [HT] at hne
  obtain ⟨g, HG⟩ : ∃ g, Gf.pgcd p T = g := ⟨_, rfl⟩
  have hg0 : g ≠ 0 := by
    rw [← HG]
    exact Gf.pgcd_ne (.inl hp)
  obtain ⟨hgp, hgT⟩ := Gf.pgcd_dvd (a := p) (b := T) (by rw [HG]; exact hg0)
  rw [HG] at hne hgp hgT
  have hgl : 2 ≤ Gf.plen g := by
    have := Gf.plen_pos hg0
    refine Nat.le_of_not_lt fun hlt => hne (Gf.plen_one (by omega))
  obtain ⟨f, hf, hfg, _⟩ := Gf.irr_factor _ g (Nat.le_refl _) hgl
  have dv : ∀ a, Gf.pmod a g = 0 → Gf.pmod a f = 0 := fun a ha => by
    have := Gf.pmod_rem (a := a) hg0 hf.ne hfg
    rw [ha, Gf.pmod_zero hf.ne] at this
    exact this.symm
  have hpf := dv p hgp
  have hTf := dv T hgT
  rw [← HT, show (2 : Nat) = Gf.xpow 1 from rfl, Gf.sqn_x hp, Gf.pmod_xor _ _ hf.ne, Gf.pmod_rem hp hf.ne hpf, Gf.pmod_rem hp hf.ne hpf, ← Gf.pmod_xor _ _ hf.ne, Nat.one_mul, show Gf.xpow 1 = 2 from rfl, ← facs_prod (j + 1) (by omega) (by omega)] at hTf
  have : ∃ a ∈ facs (j + 1), Gf.pmod a f = 0 := by
    refine Classical.byContradiction fun hno => Gf.prodP_ne hf (facs (j + 1)) (fun a ha e => hno ⟨a, ha, e⟩) hTf
  obtain ⟨a, ha, haf⟩ := this
  obtain ⟨ha0, hal⟩ := facs_small (j + 1) (by omega) (by omega) a ha
  have hal := Gf.plen_le.2 hal
  have hfa : Gf.plen f ≤ Gf.plen a := Nat.le_of_not_lt fun hlt => ha0 (by rw [← Gf.pmod_small hf.ne hlt]; exact haf)
  have hf2 := hf.1
  refine ⟨f, Nat.le_of_not_lt fun hlt => ?_, by omega, hpf⟩
  have : Gf.plen f ≤ 1 := Gf.plen_le.2 (by omega)
  omega
theorem irrB_no {p b : Nat} (h : irrB p = true) (hb : 2 ≤ b) (hl : Gf.plen b - 1 ≤ (Gf.plen p - 1) / 2) : Gf.pmod p b ≠ 0 := fun e => by
  have hi := irr_of_irrB h
  have h2 := hi.1
  have hb2 : 2 ≤ Gf.plen b := Nat.le_of_not_lt fun hlt => by
    have := Gf.plen_le.1 (show Gf.plen b ≤ 1 by omega)
    omega
  rcases hi.2 b (by omega) e with h1 | h1 <;> omega
end Go.Proofs.YtidkjcflppbpdaaDoor
