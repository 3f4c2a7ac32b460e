/- Common divisors of polynomials: plain mathematics. -/
import Derived.Test.YtidkjcflppbpdaaDoorGf
namespace Gf
theorem pmod_self {a : Nat} (h : a ≠ 0) : pmod a a = 0 := by
  have := pmod_mul_self 1 h
  rwa [pmul_one_left] at this
theorem pmod_mul_zero {q b g : Nat} (hg : g ≠ 0) (h : pmod b g = 0) : pmod (pmul q b) g = 0 := by
  rw [← pmod_mul_right q b hg, h, pmul_zero_right, pmod_zero hg]
theorem pmod_rem {a b g : Nat} (hb : b ≠ 0) (hg : g ≠ 0) (h : pmod b g = 0) : pmod (pmod a b) g = pmod a g := by
  have e := pdiv_pmod a hb
  have : pmod a g = pmod (pmul (pdiv a b) b) g ^^^ pmod (pmod a b) g := by rw [← pmod_xor _ _ hg, ← e]
  rw [this, pmod_mul_zero hg h, Nat.zero_xor]
theorem pgcdF_ne (f : Nat) : ∀ a b, plen b ≤ f → (a ≠ 0 ∨ b ≠ 0) → pgcdF f a b ≠ 0 := by
  induction f with
  | zero =>
    intro a b hl h
    have : b = 0 := plen_eq_zero.1 (by omega)
    exact h.resolve_right (fun h' => h' this)
  | succ f ih =>
    intro a b hl h
    rw [pgcdF]
    by_cases hb : b = 0
    · rw [if_pos hb]; exact h.resolve_right (fun h' => h' hb)
    · rw [if_neg hb]
      exact ih b (pmod a b) (by have := plen_pmod a hb; omega) (.inl hb)
theorem pgcd_ne {a b : Nat} (h : a ≠ 0 ∨ b ≠ 0) : pgcd a b ≠ 0 := pgcdF_ne _ a b (Nat.le_refl _) h
theorem pgcdF_dvd (f : Nat) : ∀ a b, plen b ≤ f → pgcdF f a b ≠ 0 → pmod a (pgcdF f a b) = 0 ∧ pmod b (pgcdF f a b) = 0 := by
  induction f with
  | zero =>
    intro a b hl h
    have hb : b = 0 := plen_eq_zero.1 (by omega)
    subst hb
    exact ⟨pmod_self h, pmod_zero h⟩
  | succ f ih =>
    intro a b hl
    rw [pgcdF]
    by_cases hb : b = 0
    · rw [if_pos hb]
      subst hb
      exact fun h => ⟨pmod_self h, pmod_zero h⟩
    · rw [if_neg hb]
      intro h
      obtain ⟨h1, h2⟩ := ih b (pmod a b) (by have := plen_pmod a hb; omega) h
      exact ⟨by rw [← pmod_rem hb h h1]; exact h2, h1⟩
theorem pgcd_dvd {a b : Nat} (h : pgcd a b ≠ 0) : pmod a (pgcd a b) = 0 ∧ pmod b (pgcd a b) = 0 := pgcdF_dvd _ a b (Nat.le_refl _) h
theorem pgcdF_common (c : Nat) (hc : c ≠ 0) (f : Nat) : ∀ a b, plen b ≤ f → pmod a c = 0 → pmod b c = 0 → pmod (pgcdF f a b) c = 0 := by
  induction f with
  | zero => exact fun a b _ h _ => h
  | succ f ih =>
    intro a b hl h1 h2
    rw [pgcdF]
    by_cases hb : b = 0
    · rw [if_pos hb]; exact h1
    · rw [if_neg hb]
      exact ih b (pmod a b) (by have := plen_pmod a hb; omega) h2 (by rw [pmod_rem hb hc h2]; exact h1)
theorem pgcd_common {a b c : Nat} (hc : c ≠ 0) (h1 : pmod a c = 0) (h2 : pmod b c = 0) : pmod (pgcd a b) c = 0 := pgcdF_common c hc _ a b (Nat.le_refl _) h1 h2
/-- Each divides the other: they are the same. -/
theorem dvd_antisymm {g h : Nat} (hg : g ≠ 0) (hh : h ≠ 0) (h1 : pmod g h = 0) (h2 : pmod h g = 0) : g = h := by
  have e1 := pdiv_pmod g hh
  have e2 := pdiv_pmod h hg
  rw [h1, Nat.xor_zero] at e1
  rw [h2, Nat.xor_zero] at e2
  have q1 : pdiv g h ≠ 0 := fun e => by rw [e, pmul_zero_left] at e1; exact hg e1
  have q2 : pdiv h g ≠ 0 := fun e => by rw [e, pmul_zero_left] at e2; exact hh e2
  have l1 := plen_pmul q1 hh
  have l2 := plen_pmul q2 hg
  rw [← e1] at l1
  rw [← e2] at l2
  have p1 := plen_pos q1
  have p2 := plen_pos q2
  have hq : plen (pdiv g h) = 1 := by omega
  have hq1 : pdiv g h = 1 := by
    have hlt := plen_le.1 (Nat.le_of_eq hq)
    omega
  rw [e1, hq1, pmul_one_left]
theorem pgcd_comm (a b : Nat) : pgcd a b = pgcd b a := by
  by_cases h : a ≠ 0 ∨ b ≠ 0
  · have n1 := pgcd_ne h
    have n2 := pgcd_ne (a := b) (b := a) (h.symm)
    obtain ⟨a1, b1⟩ := pgcd_dvd n1
    obtain ⟨b2, a2⟩ := pgcd_dvd n2
    exact dvd_antisymm n1 n2 (pgcd_common n2 a2 b2) (pgcd_common n1 b1 a1)
  · have ha : a = 0 := Classical.byContradiction fun e => h (.inl e)
    have hb : b = 0 := Classical.byContradiction fun e => h (.inr e)
    subst ha hb
    rfl
theorem pgcd_zero_iff (a b : Nat) : pgcd a b = 0 ↔ a = 0 ∧ b = 0 := by
  constructor
  · intro h
    refine Classical.byContradiction fun hn => ?_
    exact pgcd_ne (a := a) (b := b) (by
      by_cases ha : a = 0
      · exact .inr fun hb => hn ⟨ha, hb⟩
      · exact .inl ha) h
  · rintro ⟨rfl, rfl⟩; rfl
theorem pgcdF_plen (f : Nat) : ∀ a b, plen b ≤ f → plen (pgcdF f a b) ≤ max (plen a) (plen b) := by
  induction f with
  | zero => intro a b _; exact Nat.le_max_left _ _
  | succ f ih =>
    intro a b hl
    rw [pgcdF]
    by_cases hb : b = 0
    · rw [if_pos hb]; exact Nat.le_max_left _ _
    · rw [if_neg hb]
      have h1 := plen_pmod a hb
      have := ih b (pmod a b) (by omega)
      omega
theorem pgcd_plen (a b : Nat) : plen (pgcd a b) ≤ max (plen a) (plen b) := pgcdF_plen _ a b (Nat.le_refl _)
theorem plen_quot {a b : Nat} (hb : b ≠ 0) (h : plen a ≤ 64) (hb64 : plen b ≤ 64) : plen (pdiv a b) + plen b ≤ 65 := by
  by_cases hq : pdiv a b = 0
  · rw [hq, plen_zero]; omega
  · have e := pdiv_pmod a hb
    have l1 := plen_pmul hq hb
    have hr := plen_pmod a hb
    have hx : pmul (pdiv a b) b = a ^^^ pmod a b := by
      have : a ^^^ pmod a b = pmul (pdiv a b) b ^^^ pmod a b ^^^ pmod a b := by rw [← e]
      rw [this, xor_cancel]
    have hm := plen_xor_le a (pmod a b)
    rw [← hx] at hm
    omega
end Gf
