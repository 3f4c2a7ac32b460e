/- The order of x modulo a polynomial: plain mathematics. -/
import Derived.Test.YtidkjcflppbpdaaDoorGf
namespace Gf
theorem nodup_bound : ∀ (N : Nat) (l : List Nat), l.Nodup → (∀ x ∈ l, x < N) → l.length ≤ N
  | 0, l, _, h => by
    cases l with
    | nil => exact Nat.le_refl _
    | cons x l => exact absurd (h x List.mem_cons_self) (by omega)
  | N + 1, l, hn, h => by
    by_cases hm : N ∈ l
    · have h1 := nodup_bound N (l.erase N) (hn.erase N) (fun x hx => by
        have h2 := (hn.mem_erase_iff).1 hx
        have := h x h2.2
        have := h2.1
        omega)
      rw [List.length_erase_of_mem hm] at h1
      omega
    · have h1 := nodup_bound N l hn (fun x hx => by
        have := h x hx
        have : x ≠ N := fun e => hm (e ▸ hx)
        omega)
      omega
theorem pigeon (f : Nat → Nat) (N : Nat) (h : ∀ i, i ≤ N → f i < N) : ∃ i j, i < j ∧ j ≤ N ∧ f i = f j := by
  apply Classical.byContradiction
  intro hno
  have hn : ((List.range (N + 1)).map f).Nodup := by
    rw [List.Nodup, List.pairwise_map, List.pairwise_iff_getElem]
    intro i j hi hj hij he
    simp at hi hj he
    exact hno ⟨i, j, hij, by omega, he⟩
  have := nodup_bound N _ hn (fun x hx => by
    obtain ⟨i, hi, rfl⟩ := List.mem_map.1 hx
    exact h i (by have := List.mem_range.1 hi; omega))
  simp at this
  omega
theorem odd_half {m : Nat} (h : m % 2 = 1) : m = (m / 2) <<< 1 ^^^ 1 := by
  have := halves m
  rw [h] at this
  exact this
theorem cancel_x {m a b : Nat} (hm : m ≠ 0) (ho : m % 2 = 1) (h : pmod (a <<< 1) m = pmod (b <<< 1) m) : pmod a m = pmod b m := by
  have key : ∀ c, pmod (pmul (m / 2) (c <<< 1)) m = pmod c m := by
    intro c
    have e : pmul (m / 2) (c <<< 1) = pmul c m ^^^ c := by
      have h1 : pmul (m / 2) (c <<< 1) = pmul ((m / 2) <<< 1) c := by rw [pmul_shl_left, pmul_shl_right]
      have h2 : (m / 2) <<< 1 = m ^^^ 1 := by
        have := odd_half ho
        conv => rhs; rw [this]
        rw [xor_cancel]
      rw [h1, h2, pmul_xor_left, pmul_one_left, pmul_comm m c]
    rw [e, pmod_mul_add c c hm]
  rw [← key a, ← key b, ← pmod_mul_right (m / 2) (a <<< 1) hm, h, pmod_mul_right (m / 2) (b <<< 1) hm]
/-- x to the n, modulo m. -/
def xm (m n : Nat) : Nat := pmod (xpow n) m
theorem xm_succ {m : Nat} (hm : m ≠ 0) (n : Nat) : xm m (n + 1) = pmod (xm m n <<< 1) m := by
  unfold xm xpow
  rw [pmod_shl _ _ hm, ← Nat.shiftLeft_add]
theorem xm_zero {m : Nat} (h : 2 ≤ plen m) : xm m 0 = 1 := by
  have hm : m ≠ 0 := fun e => by subst e; simp [plen] at h
  exact pmod_small hm (by rw [show plen (xpow 0) = 1 from rfl]; omega)
theorem xm_back {m : Nat} (hm : m ≠ 0) (ho : m % 2 = 1) (d : Nat) : ∀ i, xm m i = xm m (i + d) → xm m 0 = xm m d
  | 0, h => by rw [Nat.zero_add] at h; exact h
  | i + 1, h => by
    apply xm_back hm ho d i
    have h1 : xm m (i + 1 + d) = pmod (xm m (i + d) <<< 1) m := by rw [show i + 1 + d = (i + d) + 1 by omega, xm_succ hm]
    rw [xm_succ hm, h1] at h
    have h2 := cancel_x hm ho h
    have e : ∀ n, pmod (xm m n) m = xm m n := fun n => pmod_pmod _ hm
    rw [e, e] at h2
    exact h2
theorem xm_lt {m : Nat} (hm : m ≠ 0) (n : Nat) : xm m n < 2 ^ (plen m - 1) := pmod_lt hm
/-- Some power of x is 1. -/
theorem has_order {m : Nat} (h2 : 2 ≤ plen m) (ho : m % 2 = 1) : ∃ n, 1 ≤ n ∧ n ≤ 2 ^ (plen m - 1) ∧ xm m n = 1 := by
  have hm : m ≠ 0 := fun e => by subst e; cases ho
  obtain ⟨i, j, hij, hj, he⟩ := pigeon (xm m) (2 ^ (plen m - 1)) (fun i _ => xm_lt hm i)
  refine ⟨j - i, by omega, by omega, ?_⟩
  have := xm_back hm ho (j - i) i (by rw [he]; congr 1; omega)
  rw [← this, xm_zero h2]
/-- The least such power, with fuel. -/
def ordF (m : Nat) : Nat → Nat → Nat
  | 0, n => n
  | f + 1, n => if xm m n = 1 then n else ordF m f (n + 1)
def ord (m : Nat) : Nat := ordF m (2 ^ (plen m - 1)) 1
theorem ordF_ok (m : Nat) : ∀ (f n k : Nat), n ≤ k → k ≤ n + f → xm m k = 1 → xm m (ordF m f n) = 1 ∧ n ≤ ordF m f n ∧ ordF m f n ≤ k ∧ ∀ i, n ≤ i → i < ordF m f n → xm m i ≠ 1
  | 0, n, k, h1, h2, h3 => by
    obtain rfl : k = n := by omega
    exact ⟨h3, Nat.le_refl _, Nat.le_refl _, fun i hi hl => absurd hl (by show ¬ i < k; omega)⟩
  | f + 1, n, k, h1, h2, h3 => by
    unfold ordF
    by_cases h : xm m n = 1
    · rw [if_pos h]
      exact ⟨h, Nat.le_refl _, h1, fun i hi hl => absurd hl (by omega)⟩
    · rw [if_neg h]
      have hk : n + 1 ≤ k := by
        rcases Nat.lt_or_ge n k with h' | h'
        · omega
        · exact absurd ((show n = k by omega) ▸ h3) h
      obtain ⟨a, b, c, d⟩ := ordF_ok m f (n + 1) k hk (by omega) h3
      refine ⟨a, by omega, c, fun i hi hl => ?_⟩
      by_cases e : i = n
      · subst e; exact h
      · exact d i (by omega) hl
theorem ord_ok {m : Nat} (h2 : 2 ≤ plen m) (ho : m % 2 = 1) : xm m (ord m) = 1 ∧ 1 ≤ ord m ∧ ord m ≤ 2 ^ (plen m - 1) ∧ ∀ i, 1 ≤ i → i < ord m → xm m i ≠ 1 := by
  obtain ⟨n, h1, h3, h4⟩ := has_order h2 ho
  obtain ⟨a, b, c, d⟩ := ordF_ok m (2 ^ (plen m - 1)) 1 n h1 (by omega) h4
  exact ⟨a, b, by unfold ord; omega, d⟩
end Gf
