/- Plain mathematics of polynomials over two elements and of the checksum; the walks of poly.terms, poly.Degree, Div, times, MulMod, Power, Reverse; what a slice of numbers holds. -/
import Derived.RangeFuncNested
import Derived.RangeFuncBound
import Derived.RangeFuncCalls
import Derived.RangeFuncLeaves
import Derived.RangeFuncFrom
import Derived.Shelf.Abstract
import Derived.Shelf.RegionOpen
import Derived.WalkKit
import Derived.OwnWalkIn
import Derived.TacticsInMore
import Derived.LoopNIn
import Derived.LoopIn
import Derived.Outline
import Derived.Lib.Hide
import Derived.BigQuiet
import Derived.Laws.BitsAllLaws
import Derived.Test.YtmjigpnpcacefaaDoorChecked
import Derived.Laws.EntriesVeiled
namespace Gf

/-- The number of coefficients (the degree and one). -/
def plen (p : Nat) : Nat := if p = 0 then 0 else p.log2 + 1

theorem plen_zero : plen 0 = 0 := rfl
theorem plen_le {p n : Nat} : plen p ≤ n ↔ p < 2 ^ n := by
  unfold plen
  split
  · rename_i h; subst h; exact ⟨fun _ => Nat.two_pow_pos n, fun _ => Nat.zero_le _⟩
  · rename_i h; rw [Nat.succ_le_iff, Nat.log2_lt h]
theorem lt_two_plen (p : Nat) : p < 2 ^ plen p := plen_le.1 (Nat.le_refl _)
theorem plen_pos {p : Nat} (h : p ≠ 0) : 0 < plen p := by unfold plen; rw [if_neg h]; omega
theorem plen_eq_zero {p : Nat} : plen p = 0 ↔ p = 0 := by
  constructor
  · intro h; apply Classical.byContradiction; intro hp; have := plen_pos hp; omega
  · rintro rfl; rfl
theorem plen_top {p : Nat} (h : p ≠ 0) : p.testBit (plen p - 1) = true := by
  unfold plen; rw [if_neg h]; simpa using Nat.testBit_log2 h
theorem bit_ge {p n i : Nat} (h : p < 2 ^ n) (hi : n ≤ i) : p.testBit i = false :=
  Nat.testBit_lt_two_pow (Nat.lt_of_lt_of_le h (Nat.pow_le_pow_right (by decide) hi))
theorem bit_plen {p i : Nat} (hi : plen p ≤ i) : p.testBit i = false := bit_ge (lt_two_plen p) hi
theorem lt_plen_of_bit {p i : Nat} (h : p.testBit i = true) : i < plen p := by
  apply Classical.byContradiction; intro hn
  rw [bit_plen (by omega)] at h; cases h
theorem plen_mono {p q : Nat} (h : p ≤ q) : plen p ≤ plen q := plen_le.2 (Nat.lt_of_le_of_lt h (lt_two_plen q))
theorem plen_eq {p n : Nat} (h1 : p < 2 ^ (n + 1)) (h2 : p.testBit n = true) : plen p = n + 1 := by
  have := plen_le.2 h1; have := lt_plen_of_bit h2; omega
theorem lt_of_bits {p n : Nat} (h : ∀ i, n ≤ i → p.testBit i = false) : p < 2 ^ n := Nat.lt_pow_two_of_testBit p h
theorem plen_xor_le (a b : Nat) : plen (a ^^^ b) ≤ max (plen a) (plen b) :=
  plen_le.2 (Nat.xor_lt_two_pow (Nat.lt_of_lt_of_le (lt_two_plen a) (Nat.pow_le_pow_right (by decide) (Nat.le_max_left _ _)))
    (Nat.lt_of_lt_of_le (lt_two_plen b) (Nat.pow_le_pow_right (by decide) (Nat.le_max_right _ _))))
theorem plen_shl {a : Nat} (h : a ≠ 0) (i : Nat) : plen (a <<< i) = plen a + i := by
  have hp := plen_pos h
  have h1 : a <<< i < 2 ^ (plen a + i) := by
    rw [Nat.shiftLeft_eq, Nat.pow_add]; exact Nat.mul_lt_mul_of_pos_right (lt_two_plen a) (Nat.two_pow_pos i)
  have h2 : (a <<< i).testBit (plen a - 1 + i) = true := by
    rw [Nat.testBit_shiftLeft]; simp [plen_top h]
  have := plen_eq (n := plen a - 1 + i) (by rw [show plen a - 1 + i + 1 = plen a + i by omega]; exact h1) h2
  omega
theorem plen_shl_le (a i : Nat) : plen (a <<< i) ≤ plen a + i := by
  by_cases h : a = 0
  · subst h; simp [plen_zero]
  · rw [plen_shl h]; exact Nat.le_refl _
/-- Two of one length: the sum is shorter. -/
theorem plen_xor_lt {a b : Nat} (ha : a ≠ 0) (h : plen a = plen b) : plen (a ^^^ b) < plen a := by
  have hp := plen_pos ha
  have hb : b ≠ 0 := by intro hb; subst hb; rw [plen_zero] at h; omega
  have h1 : a ^^^ b < 2 ^ (plen a - 1) := by
    apply lt_of_bits
    intro i hi
    rw [Nat.testBit_xor]
    by_cases e : i = plen a - 1
    · subst e; rw [plen_top ha, h, plen_top hb]; rfl
    · rw [bit_plen (p := a) (by omega), bit_plen (p := b) (by omega)]; rfl
  have := plen_le.2 h1; omega
theorem plen_xor_left {a b : Nat} (h : plen b < plen a) : plen (a ^^^ b) = plen a := by
  have ha : a ≠ 0 := by intro e; subst e; rw [plen_zero] at h; omega
  have hp := plen_pos ha
  have h1 := plen_xor_le a b
  have h2 : (a ^^^ b).testBit (plen a - 1) = true := by rw [Nat.testBit_xor, plen_top ha, bit_plen (p := b) (by omega)]; rfl
  have h3 := lt_plen_of_bit h2
  rw [Nat.max_eq_left (by omega)] at h1; omega

theorem xor_cancel (a b : Nat) : a ^^^ b ^^^ b = a := by rw [Nat.xor_assoc, Nat.xor_self, Nat.xor_zero]
theorem xor_cancel' (a b : Nat) : b ^^^ (b ^^^ a) = a := by rw [← Nat.xor_assoc, Nat.xor_self, Nat.zero_xor]
theorem xor_eq_zero {a b : Nat} : a ^^^ b = 0 ↔ a = b := by
  constructor
  · intro h; have := xor_cancel a b; rw [h, Nat.zero_xor] at this; exact this.symm
  · rintro rfl; exact Nat.xor_self _
theorem xor_left_comm (a b c : Nat) : a ^^^ (b ^^^ c) = b ^^^ (a ^^^ c) := by rw [← Nat.xor_assoc, Nat.xor_comm a b, Nat.xor_assoc]
theorem xor_right_comm (a b c : Nat) : a ^^^ b ^^^ c = a ^^^ c ^^^ b := by rw [Nat.xor_assoc, Nat.xor_comm b c, Nat.xor_assoc]
theorem xor_xor_comm (a b c d : Nat) : (a ^^^ b) ^^^ (c ^^^ d) = (a ^^^ c) ^^^ (b ^^^ d) := by
  rw [Nat.xor_assoc, xor_left_comm b c d, ← Nat.xor_assoc]

/-- The product, by the coefficients of the second factor below n. -/
def pmulN (a b : Nat) : Nat → Nat
  | 0 => 0
  | n + 1 => pmulN a b n ^^^ (if b.testBit n then a <<< n else 0)
/-- The product. -/
def pmul (a b : Nat) : Nat := pmulN a b (plen b)

theorem pmulN_more (a b : Nat) {n m : Nat} (h : plen b ≤ n) (hm : n ≤ m) : pmulN a b m = pmulN a b n := by
  induction m with
  | zero => rw [show n = 0 by omega]
  | succ m ih =>
    by_cases e : n = m + 1
    · rw [e]
    · rw [pmulN, ih (by omega), bit_plen (p := b) (by omega)]; simp
theorem pmul_eq (a b : Nat) {n : Nat} (h : plen b ≤ n) : pmul a b = pmulN a b n := (pmulN_more a b (Nat.le_refl _) h).symm
theorem pmulN_xor_left (a a' b n : Nat) : pmulN (a ^^^ a') b n = pmulN a b n ^^^ pmulN a' b n := by
  induction n with
  | zero => simp [pmulN]
  | succ n ih =>
    rw [pmulN, pmulN, pmulN, ih, xor_xor_comm]
    split
    · rw [Nat.shiftLeft_xor_distrib]
    · simp
theorem pmulN_xor_right (a b b' n : Nat) : pmulN a (b ^^^ b') n = pmulN a b n ^^^ pmulN a b' n := by
  induction n with
  | zero => simp [pmulN]
  | succ n ih =>
    rw [pmulN, pmulN, pmulN, ih, xor_xor_comm, Nat.testBit_xor]
    cases b.testBit n <;> cases b'.testBit n <;> simp
theorem pmulN_zero_left (b n : Nat) : pmulN 0 b n = 0 := by
  induction n with
  | zero => rfl
  | succ n ih => rw [pmulN, ih]; simp
theorem pmulN_zero_right (a n : Nat) : pmulN a 0 n = 0 := by
  induction n with
  | zero => rfl
  | succ n ih => rw [pmulN, ih]; simp
theorem pmulN_shl_left (a b i n : Nat) : pmulN (a <<< i) b n = pmulN a b n <<< i := by
  induction n with
  | zero => simp [pmulN]
  | succ n ih =>
    rw [pmulN, pmulN, ih, Nat.shiftLeft_xor_distrib]
    split
    · rw [← Nat.shiftLeft_add, ← Nat.shiftLeft_add, Nat.add_comm]
    · simp
theorem pmulN_shl_one (a b n : Nat) : pmulN a (b <<< 1) (n + 1) = pmulN a b n <<< 1 := by
  induction n with
  | zero => simp [pmulN]
  | succ n ih =>
    rw [pmulN, ih, pmulN, Nat.shiftLeft_xor_distrib, Nat.testBit_shiftLeft]
    simp only [ge_iff_le, Nat.le_add_left, decide_true, Nat.add_sub_cancel, Bool.true_and]
    split
    · rw [← Nat.shiftLeft_add]
    · simp
theorem pmulN_one_left (b n : Nat) : pmulN 1 b n = b % 2 ^ n := by
  induction n with
  | zero => simp [pmulN, Nat.mod_one]
  | succ n ih =>
    rw [pmulN, ih]
    apply Nat.eq_of_testBit_eq
    intro i
    rw [Nat.testBit_xor, Nat.testBit_mod_two_pow, Nat.testBit_mod_two_pow]
    by_cases h : b.testBit n = true
    · rw [if_pos h, Nat.testBit_shiftLeft]
      by_cases e : i = n
      · subst e; simp [h]
      · by_cases hlt : i < n
        · simp [hlt, show i < n + 1 by omega, show ¬ n ≤ i by omega]
        · have : (1 : Nat).testBit (i - n) = false := by
            obtain ⟨k, hk⟩ : ∃ k, i - n = k + 1 := ⟨i - n - 1, by omega⟩
            rw [hk, Nat.testBit_succ]; simp
          simp [hlt, show ¬ i < n + 1 by omega, this]
    · rw [if_neg h]
      have hf : b.testBit n = false := by simpa using h
      by_cases e : i = n
      · subst e; simp [hf]
      · by_cases hlt : i < n
        · simp [hlt, show i < n + 1 by omega]
        · simp [hlt, show ¬ i < n + 1 by omega]

theorem pmul_zero_left (b : Nat) : pmul 0 b = 0 := pmulN_zero_left _ _
theorem pmul_zero_right (a : Nat) : pmul a 0 = 0 := rfl
theorem pmul_xor_left (a a' b : Nat) : pmul (a ^^^ a') b = pmul a b ^^^ pmul a' b := pmulN_xor_left _ _ _ _
theorem pmul_xor_right (a b b' : Nat) : pmul a (b ^^^ b') = pmul a b ^^^ pmul a b' := by
  have h1 := pmul_eq a (b ^^^ b') (plen_xor_le b b')
  rw [h1, pmul_eq a b (Nat.le_max_left (plen b) (plen b')), pmul_eq a b' (Nat.le_max_right (plen b) (plen b'))]
  exact pmulN_xor_right _ _ _ _
theorem pmul_shl_left (a b i : Nat) : pmul (a <<< i) b = pmul a b <<< i := pmulN_shl_left _ _ _ _
theorem pmul_one_left (b : Nat) : pmul 1 b = b := by
  unfold pmul; rw [pmulN_one_left]; exact Nat.mod_eq_of_lt (lt_two_plen b)
theorem pmul_one_right (a : Nat) : pmul a 1 = a := by
  show pmulN a 1 1 = a; simp [pmulN]
theorem pmul_shl_one_right (a b : Nat) : pmul a (b <<< 1) = pmul a b <<< 1 := by
  rw [pmul_eq a (b <<< 1) (plen_shl_le b 1)]; exact pmulN_shl_one _ _ _
theorem pmul_shl_right (a b i : Nat) : pmul a (b <<< i) = pmul a b <<< i := by
  induction i with
  | zero => simp
  | succ i ih => rw [Nat.shiftLeft_add, pmul_shl_one_right, ih, ← Nat.shiftLeft_add]

/-- A number is its upper bits, moved, and its lowest one. -/
theorem halves (a : Nat) : a = (a / 2) <<< 1 ^^^ a % 2 := by
  apply Nat.eq_of_testBit_eq
  intro i
  rw [Nat.testBit_xor, Nat.testBit_shiftLeft]
  cases i with
  | zero => rcases Nat.mod_two_eq_zero_or_one a with h | h <;> simp [Nat.testBit_zero, h]
  | succ i =>
    rw [Nat.testBit_succ a i]
    have : (a % 2).testBit (i + 1) = false := bit_ge (n := 1) (by omega) (by omega)
    simp [this]
/-- Induction by the bits. -/
theorem bit_ind {P : Nat → Prop} (h0 : P 0) (h1 : P 1) (hs : ∀ a, P a → P (a <<< 1)) (hx : ∀ a b, P a → P b → P (a ^^^ b)) : ∀ a, P a := by
  intro a
  induction a using Nat.strongRecOn with
  | ind a ih =>
    by_cases e : a = 0
    · subst e; exact h0
    · rw [halves a]
      refine hx _ _ (hs _ (ih _ (by omega))) ?_
      rcases Nat.mod_two_eq_zero_or_one a with h | h <;> rw [h]
      · exact h0
      · exact h1

theorem pmul_comm (a b : Nat) : pmul a b = pmul b a := by
  revert a
  refine bit_ind (P := fun a => pmul a b = pmul b a) ?_ ?_ ?_ ?_
  · rw [pmul_zero_left, pmul_zero_right]
  · rw [pmul_one_left, pmul_one_right]
  · intro a h; rw [pmul_shl_left, pmul_shl_one_right, h]
  · intro x y hx hy; rw [pmul_xor_left, pmul_xor_right, hx, hy]
theorem pmul_assoc (a b c : Nat) : pmul (pmul a b) c = pmul a (pmul b c) := by
  revert c
  refine bit_ind (P := fun c => pmul (pmul a b) c = pmul a (pmul b c)) ?_ ?_ ?_ ?_
  · rw [pmul_zero_right, pmul_zero_right, pmul_zero_right]
  · rw [pmul_one_right, pmul_one_right]
  · intro c h; rw [pmul_shl_one_right, pmul_shl_one_right, pmul_shl_one_right, h]
  · intro x y hx hy; rw [pmul_xor_right, pmul_xor_right, pmul_xor_right, hx, hy]
theorem pmul_left_comm (a b c : Nat) : pmul a (pmul b c) = pmul b (pmul a c) := by rw [← pmul_assoc, pmul_comm a b, pmul_assoc]
theorem pmul_shl_eq (a i : Nat) : pmul a (1 <<< i) = a <<< i := by rw [pmul_shl_right, pmul_one_right]

theorem pmulN_lt {a b : Nat} (ha : a ≠ 0) (n : Nat) : pmulN a b n < 2 ^ (plen a - 1 + n) := by
  have hp := plen_pos ha
  induction n with
  | zero => rw [pmulN]; exact Nat.two_pow_pos _
  | succ n ih =>
    rw [pmulN]
    refine Nat.xor_lt_two_pow (Nat.lt_of_lt_of_le ih (Nat.pow_le_pow_right (by decide) (by omega))) ?_
    split
    · exact plen_le.1 (by rw [plen_shl ha]; omega)
    · exact Nat.two_pow_pos _
theorem plen_pmul {a b : Nat} (ha : a ≠ 0) (hb : b ≠ 0) : plen (pmul a b) = plen a + plen b - 1 := by
  have pa := plen_pos ha
  have pb := plen_pos hb
  obtain ⟨n, hn⟩ : ∃ n, plen b = n + 1 := ⟨plen b - 1, by omega⟩
  have ht : b.testBit n = true := by have := plen_top hb; rw [hn] at this; simpa using this
  unfold pmul
  rw [hn, pmulN, if_pos ht]
  have h1 : plen (pmulN a b n) < plen (a <<< n) := by
    have := plen_le.2 (pmulN_lt (b := b) ha n); rw [plen_shl ha]; omega
  rw [Nat.xor_comm, plen_xor_left h1, plen_shl ha]; omega
theorem pmul_ne_zero {a b : Nat} (ha : a ≠ 0) (hb : b ≠ 0) : pmul a b ≠ 0 := by
  intro h
  have := plen_pmul ha hb
  rw [h, plen_zero] at this
  have pa := plen_pos ha
  have pb := plen_pos hb
  omega
theorem pmul_eq_zero {a b : Nat} (h : pmul a b = 0) : a = 0 ∨ b = 0 := by
  by_cases ha : a = 0
  · exact .inl ha
  · by_cases hb : b = 0
    · exact .inr hb
    · exact absurd h (pmul_ne_zero ha hb)

/-- Division with the remainder: the fuel is the dividend's length. -/
def pdm : Nat → Nat → Nat → Nat × Nat
  | 0, a, _ => (0, a)
  | f + 1, a, b => if plen b ≤ plen a then ((pdm f (a ^^^ b <<< (plen a - plen b)) b).1 ^^^ 1 <<< (plen a - plen b), (pdm f (a ^^^ b <<< (plen a - plen b)) b).2) else (0, a)
def pdiv (a b : Nat) : Nat := (pdm (plen a) a b).1
def pmod (a b : Nat) : Nat := (pdm (plen a) a b).2

theorem pdm_step_lt {a b : Nat} (hb : b ≠ 0) (h : plen b ≤ plen a) : plen (a ^^^ b <<< (plen a - plen b)) < plen a := by
  have pb := plen_pos hb
  have ha : a ≠ 0 := by intro e; subst e; rw [plen_zero] at h; omega
  exact plen_xor_lt ha (by rw [plen_shl hb]; omega)
theorem pdm_spec {b : Nat} (hb : b ≠ 0) (f : Nat) : ∀ a, plen a ≤ f → a = pmul (pdm f a b).1 b ^^^ (pdm f a b).2 ∧ plen (pdm f a b).2 < plen b := by
  have pb := plen_pos hb
  induction f with
  | zero =>
    intro a h
    rw [pdm]
    exact ⟨by rw [pmul_zero_left, Nat.zero_xor], by show plen a < _; omega⟩
  | succ f ih =>
    intro a h
    rw [pdm]
    split
    · rename_i hle
      obtain ⟨h1, h2⟩ := ih (a ^^^ b <<< (plen a - plen b)) (by have := pdm_step_lt hb hle; omega)
      refine ⟨?_, h2⟩
      show a = pmul (_ ^^^ _) b ^^^ _
      rw [pmul_xor_left, pmul_shl_left, pmul_one_left, xor_right_comm, ← h1, xor_cancel]
    · rename_i hlt
      exact ⟨by rw [pmul_zero_left, Nat.zero_xor], by show plen a < _; omega⟩
theorem pdiv_pmod (a : Nat) {b : Nat} (hb : b ≠ 0) : a = pmul (pdiv a b) b ^^^ pmod a b := (pdm_spec hb _ a (Nat.le_refl _)).1
theorem plen_pmod (a : Nat) {b : Nat} (hb : b ≠ 0) : plen (pmod a b) < plen b := (pdm_spec hb _ a (Nat.le_refl _)).2
theorem div_unique {a b q r : Nat} (hb : b ≠ 0) (h : a = pmul q b ^^^ r) (hr : plen r < plen b) : q = pdiv a b ∧ r = pmod a b := by
  have h1 := pdiv_pmod a hb
  have h2 := plen_pmod a hb
  have h3 : pmul (q ^^^ pdiv a b) b = r ^^^ pmod a b := by
    rw [pmul_xor_left]
    have : pmul q b ^^^ r ^^^ (pmul (pdiv a b) b ^^^ pmod a b) = 0 := xor_eq_zero.2 (h.symm.trans h1)
    rw [xor_xor_comm] at this
    exact xor_eq_zero.1 this
  have hq : q = pdiv a b := by
    apply Classical.byContradiction
    intro hne
    have hne' : q ^^^ pdiv a b ≠ 0 := fun e => hne (xor_eq_zero.1 e)
    have h4 := plen_pmul hne' hb
    rw [h3] at h4
    have h5 := plen_xor_le r (pmod a b)
    have := plen_pos hne'
    have : max (plen r) (plen (pmod a b)) < plen b := Nat.max_lt.2 ⟨hr, h2⟩
    omega
  refine ⟨hq, ?_⟩
  subst hq
  rw [Nat.xor_self, pmul_zero_left] at h3
  exact xor_eq_zero.1 h3.symm
theorem pmod_unique {a b r : Nat} (q : Nat) (hb : b ≠ 0) (h : a = pmul q b ^^^ r) (hr : plen r < plen b) : pmod a b = r := (div_unique hb h hr).2.symm
theorem pmod_lt {a b : Nat} (hb : b ≠ 0) : pmod a b < 2 ^ (plen b - 1) := plen_le.1 (by have := plen_pmod a hb; omega)
theorem pmod_small {a b : Nat} (hb : b ≠ 0) (h : plen a < plen b) : pmod a b = a := pmod_unique 0 hb (by rw [pmul_zero_left, Nat.zero_xor]) h
theorem pmod_zero {b : Nat} (hb : b ≠ 0) : pmod 0 b = 0 := pmod_small hb (by rw [plen_zero]; exact plen_pos hb)
theorem pmod_xor (a a' : Nat) {b : Nat} (hb : b ≠ 0) : pmod (a ^^^ a') b = pmod a b ^^^ pmod a' b := by
  refine pmod_unique (pdiv a b ^^^ pdiv a' b) hb ?_ ?_
  · rw [pmul_xor_left, xor_xor_comm, ← pdiv_pmod a hb, ← pdiv_pmod a' hb]
  · have := plen_xor_le (pmod a b) (pmod a' b)
    have : max (plen (pmod a b)) (plen (pmod a' b)) < plen b := Nat.max_lt.2 ⟨plen_pmod a hb, plen_pmod a' hb⟩
    omega
theorem pmod_mul_self (q : Nat) {b : Nat} (hb : b ≠ 0) : pmod (pmul q b) b = 0 := pmod_unique q hb (by rw [Nat.xor_zero]) (by rw [plen_zero]; exact plen_pos hb)
theorem pmod_mul_add (q r : Nat) {b : Nat} (hb : b ≠ 0) : pmod (pmul q b ^^^ r) b = pmod r b := by rw [pmod_xor _ _ hb, pmod_mul_self q hb, Nat.zero_xor]
theorem pmod_pmod (a : Nat) {b : Nat} (hb : b ≠ 0) : pmod (pmod a b) b = pmod a b := pmod_small hb (plen_pmod a hb)
theorem pmod_mul_left (a c : Nat) {b : Nat} (hb : b ≠ 0) : pmod (pmul (pmod a b) c) b = pmod (pmul a c) b := by
  have h : pmul a c = pmul (pmul (pdiv a b) c) b ^^^ pmul (pmod a b) c := by
    have h0 := pdiv_pmod a hb
    calc pmul a c = pmul (pmul (pdiv a b) b ^^^ pmod a b) c := by rw [← h0]
      _ = _ := by rw [pmul_xor_left, pmul_assoc, pmul_comm b c, ← pmul_assoc]
  rw [h, pmod_mul_add _ _ hb]
theorem pmod_mul_right (a c : Nat) {b : Nat} (hb : b ≠ 0) : pmod (pmul a (pmod c b)) b = pmod (pmul a c) b := by
  rw [pmul_comm, pmod_mul_left _ _ hb, pmul_comm]
theorem pmod_shl (a i : Nat) {b : Nat} (hb : b ≠ 0) : pmod (pmod a b <<< i) b = pmod (a <<< i) b := by
  rw [← pmul_shl_eq, pmod_mul_left _ _ hb, pmul_shl_eq]
theorem pmod_one (a : Nat) : pmod a 1 = 0 := by
  have := plen_pmod a (b := 1) (by decide)
  rw [show plen 1 = 1 from rfl] at this
  exact plen_eq_zero.1 (by omega)
/-- Multiplication by x, in one step. -/
theorem pmod_step {a b : Nat} (hb : b ≠ 0) (ha : plen a < plen b) :
    pmod (a <<< 1) b = if (a <<< 1).testBit (plen b - 1) then a <<< 1 ^^^ b else a <<< 1 := by
  have pb := plen_pos hb
  have hle : plen (a <<< 1) ≤ plen b := by have := plen_shl_le a 1; omega
  split
  · rename_i h
    have h1 := lt_plen_of_bit h
    refine pmod_unique 1 hb (by rw [pmul_one_left, Nat.xor_comm, xor_cancel]) ?_
    have hne : a <<< 1 ≠ 0 := by intro e; rw [e, plen_zero] at h1; omega
    have := plen_xor_lt hne (b := b) (by omega)
    omega
  · rename_i h
    refine pmod_small hb ?_
    apply Classical.byContradiction
    intro hn
    have e : plen (a <<< 1) = plen b := by omega
    have hne : a <<< 1 ≠ 0 := by intro e'; rw [e', plen_zero] at e; omega
    have := plen_top hne
    rw [e] at this
    exact h this

theorem shr_step (b k : Nat) : b >>> k = (b >>> (k + 1)) <<< 1 ^^^ (if b.testBit k then 1 else 0) := by
  have h := halves (b >>> k)
  rw [show b >>> k / 2 = b >>> (k + 1) by rw [Nat.shiftRight_succ]] at h
  have e : b >>> k % 2 = if b.testBit k then 1 else 0 := by
    rw [Nat.testBit_eq_decide_div_mod_eq, ← Nat.shiftRight_eq_div_pow]
    rcases Nat.mod_two_eq_zero_or_one (b >>> k) with h | h <;> simp [h]
  rw [e] at h
  exact h
/-- One step of a product modulo m, from the greatest coefficient of b on. -/
theorem horner {a m : Nat} (b k : Nat) (hm : m ≠ 0) (ha : plen a < plen m) :
    pmod (pmul a (b >>> k)) m = pmod (pmod (pmul a (b >>> (k + 1))) m <<< 1) m ^^^ (if b.testBit k then a else 0) := by
  rw [pmod_shl _ _ hm]
  conv => lhs; rw [shr_step b k]
  rw [pmul_xor_right, pmul_shl_right, pmod_xor _ _ hm]
  congr 1
  split
  · rw [pmul_one_right, pmod_small hm ha]
  · rw [pmul_zero_right, pmod_zero hm]

/-- The greatest common divisor by Euclid's way, with fuel. -/
def pgcdF : Nat → Nat → Nat → Nat
  | 0, a, _ => a
  | f + 1, a, b => if b = 0 then a else pgcdF f b (pmod a b)
def pgcd (a b : Nat) : Nat := pgcdF (plen b) a b
theorem pgcdF_more (f : Nat) : ∀ (g a b : Nat), plen b ≤ f → f ≤ g → pgcdF g a b = pgcdF f a b := by
  induction f with
  | zero =>
    intro g a b h _
    have hb : b = 0 := plen_eq_zero.1 (by omega)
    subst hb
    cases g with
    | zero => rfl
    | succ g => simp [pgcdF]
  | succ f ih =>
    intro g a b h hg
    obtain ⟨g, rfl⟩ : ∃ g', g = g' + 1 := ⟨g - 1, by omega⟩
    rw [pgcdF, pgcdF]
    split
    · rfl
    · rename_i hb
      exact ih g b (pmod a b) (by have := plen_pmod a hb; omega) (by omega)
theorem pgcd_zero (a : Nat) : pgcd a 0 = a := rfl
theorem pgcd_step (a : Nat) {b : Nat} (hb : b ≠ 0) : pgcd a b = pgcd b (pmod a b) := by
  have pb := plen_pos hb
  unfold pgcd
  obtain ⟨f, hf⟩ : ∃ f, plen b = f + 1 := ⟨plen b - 1, by omega⟩
  rw [hf, pgcdF, if_neg hb]
  exact pgcdF_more _ _ _ _ (Nat.le_refl _) (by have := plen_pmod a hb; omega)

/-- x to a power. -/
def xpow (n : Nat) : Nat := 1 <<< n
theorem xpow_add (m n : Nat) : pmul (xpow m) (xpow n) = xpow (m + n) := by
  unfold xpow; rw [pmul_shl_eq, ← Nat.shiftLeft_add]

end Gf

namespace Gf

/-- The generator, and what the register takes. -/
def G : Nat := 4374732215
def R : Nat := 3988292384
theorem plen_G : plen G = 33 := by decide +kernel
theorem G_ne : G ≠ 0 := by decide

def step (c : Nat) : Nat := if c % 2 = 1 then c / 2 ^^^ R else c / 2
def stepN : Nat → Nat → Nat
  | 0, c => c
  | n + 1, c => stepN n (step c)
def byteR (c x : Nat) : Nat := stepN 8 (c ^^^ x)
def run (c : Nat) (bs : List Nat) : Nat := bs.foldl byteR c

theorem step_lt {c : Nat} (h : c < 4294967296) : step c < 4294967296 := by
  have hd : c / 2 < 2 ^ 32 := by omega
  unfold step
  split
  · exact Nat.xor_lt_two_pow hd (by decide)
  · exact hd
theorem stepN_lt (n : Nat) : ∀ {c : Nat}, c < 4294967296 → stepN n c < 4294967296 := by
  induction n with
  | zero => exact fun h => h
  | succ n ih => exact fun h => ih (step_lt h)
theorem byteR_lt {c x : Nat} (h : c < 4294967296) (hx : x < 256) : byteR c x < 4294967296 :=
  stepN_lt 8 (Nat.xor_lt_two_pow (n := 32) h (by omega))
theorem run_lt {bs : List Nat} : ∀ {c : Nat}, c < 4294967296 → (∀ x ∈ bs, x < 256) → run c bs < 4294967296 := by
  induction bs with
  | nil => exact fun h _ => h
  | cons x bs ih => exact fun h hb => ih (byteR_lt h (hb x (by simp))) (fun y hy => hb y (by simp [hy]))
theorem run_append (c : Nat) (a b : List Nat) : run c (a ++ b) = run (run c a) b := List.foldl_append
theorem run_snoc (c : Nat) (a : List Nat) (x : Nat) : run c (a ++ [x]) = byteR (run c a) x := by rw [run_append]; rfl

theorem xor_half (a b : Nat) : (a ^^^ b) / 2 = a / 2 ^^^ b / 2 := Nat.xor_div_two_pow (n := 1)
theorem xor_mod2 (a b : Nat) : (a ^^^ b) % 2 = (a % 2 ^^^ b % 2) := Nat.xor_mod_two_pow (n := 1)
theorem step_xor (a b : Nat) : step (a ^^^ b) = step a ^^^ step b := by
  unfold step
  rw [xor_half, xor_mod2]
  rcases Nat.mod_two_eq_zero_or_one a with h | h <;> rcases Nat.mod_two_eq_zero_or_one b with h' | h' <;> rw [h, h'] <;> simp
  · rw [Nat.xor_assoc]
  · rw [xor_right_comm]
  · rw [xor_xor_comm, Nat.xor_self, Nat.xor_zero]
theorem stepN_xor (n : Nat) : ∀ a b : Nat, stepN n (a ^^^ b) = stepN n a ^^^ stepN n b := by
  induction n with
  | zero => exact fun _ _ => rfl
  | succ n ih => intro a b; rw [stepN, step_xor, ih]; rfl
theorem stepN_add (m n c : Nat) : stepN (m + n) c = stepN n (stepN m c) := by
  induction m generalizing c with
  | zero => rw [Nat.zero_add]; rfl
  | succ m ih => rw [show m + 1 + n = (m + n) + 1 by omega, stepN, ih, ← stepN]
theorem stepN_zero (n : Nat) : stepN n 0 = 0 := by
  induction n with
  | zero => rfl
  | succ n ih => rw [stepN]; exact ih
theorem step_double (d : Nat) : step (2 * d) = d := by unfold step; rw [if_neg (by omega)]; omega
theorem stepN_pow (n : Nat) : ∀ d, stepN n (2 ^ n * d) = d := by
  induction n with
  | zero => intro d; simp [stepN]
  | succ n ih =>
    intro d
    rw [stepN, show 2 ^ (n + 1) * d = 2 * (2 ^ n * d) by rw [Nat.pow_succ, Nat.mul_comm (2 ^ n) 2, Nat.mul_assoc], step_double, ih]
/-- A number is its upper part and its lower one. -/
theorem split_pow (n c : Nat) : c = (2 ^ n * (c / 2 ^ n)) ^^^ (c % 2 ^ n) := by
  apply Nat.eq_of_testBit_eq
  intro i
  rw [Nat.testBit_xor, Nat.testBit_mod_two_pow, Nat.testBit_two_pow_mul, Nat.testBit_div_two_pow]
  by_cases h : i < n
  · simp [h, show ¬ n ≤ i by omega]
  · simp [h, show n ≤ i by omega, show i - n + n = i by omega]
theorem stepN_split (n c : Nat) : stepN n c = c / 2 ^ n ^^^ stepN n (c % 2 ^ n) := by
  conv => lhs; rw [split_pow n c]
  rw [stepN_xor, stepN_pow]
theorem step_inj0 {c : Nat} (h : c < 4294967296) (h0 : step c = 0) : c = 0 := by
  unfold step at h0
  split at h0
  · have := xor_eq_zero.1 h0
    unfold R at this
    omega
  · omega
theorem stepN_inj0 (n : Nat) : ∀ {c : Nat}, c < 4294967296 → stepN n c = 0 → c = 0 := by
  induction n with
  | zero => exact fun _ h => h
  | succ n ih => exact fun h h0 => step_inj0 h (ih (step_lt h) h0)
theorem byteR_split {c x : Nat} (hx : x < 256) : byteR c x = c / 256 ^^^ stepN 8 (c % 256 ^^^ x) := by
  unfold byteR
  rw [stepN_split]
  have h1 : (c ^^^ x) / 2 ^ 8 = c / 256 := by
    rw [Nat.xor_div_two_pow, show x / 2 ^ 8 = 0 by omega, Nat.xor_zero]
  have h2 : (c ^^^ x) % 2 ^ 8 = c % 256 ^^^ x := by
    rw [Nat.xor_mod_two_pow, show x % 2 ^ 8 = x by omega]
  rw [h1, h2]
theorem byteR_xor (a b x y : Nat) : byteR (a ^^^ b) (x ^^^ y) = byteR a x ^^^ byteR b y := by
  unfold byteR; rw [xor_xor_comm, stepN_xor]

/-- The lower bits in the opposite order. -/
def rev (p : Nat) : Nat → Nat
  | 0 => 0
  | i + 1 => 2 * rev p i + p / 2 ^ i % 2
theorem rev_lt (p n : Nat) : rev p n < 2 ^ n := by
  induction n with
  | zero => simp [rev]
  | succ n ih => rw [rev, Nat.pow_succ]; omega
theorem rev_bit (p n j : Nat) : (rev p n).testBit j = (decide (j < n) && p.testBit (n - 1 - j)) := by
  induction n generalizing j with
  | zero => simp [rev]
  | succ n ih =>
    rw [rev]
    cases j with
    | zero =>
      rw [Nat.testBit_zero, Nat.testBit_eq_decide_div_mod_eq]
      simp only [Nat.add_sub_cancel, Nat.sub_zero, Nat.zero_lt_succ, decide_true, Bool.true_and]
      congr 1
      apply propext
      omega
    | succ j =>
      rw [Nat.testBit_succ, show (2 * rev p n + p / 2 ^ n % 2) / 2 = rev p n by omega, ih]
      rw [show n + 1 - 1 - (j + 1) = n - 1 - j by omega]
      congr 1
      simp
theorem rev_rev {p n : Nat} (h : p < 2 ^ n) : rev (rev p n) n = p := by
  apply Nat.eq_of_testBit_eq
  intro j
  rw [rev_bit, rev_bit]
  by_cases hj : j < n
  · simp [hj, show n - 1 - j < n by omega, show n - 1 - (n - 1 - j) = j by omega]
  · simp [hj, bit_ge h (show n ≤ j by omega)]
theorem rev_xor (a b n : Nat) : rev (a ^^^ b) n = rev a n ^^^ rev b n := by
  apply Nat.eq_of_testBit_eq
  intro j
  rw [Nat.testBit_xor, rev_bit, rev_bit, rev_bit, Nat.testBit_xor]
  cases decide (j < n) <;> simp
theorem rev_zero (n : Nat) : rev 0 n = 0 := by
  apply Nat.eq_of_testBit_eq
  intro j
  rw [rev_bit]; simp
theorem rev_inj {a b n : Nat} (ha : a < 2 ^ n) (hb : b < 2 ^ n) (h : rev a n = rev b n) : a = b := by
  rw [← rev_rev ha, h, rev_rev hb]

theorem rev_more {p k : Nat} (h : p < 2 ^ k) (j : Nat) : rev p (k + j) = 2 ^ j * rev p k := by
  induction j with
  | zero => simp
  | succ j ih =>
    rw [← Nat.add_assoc, rev, ih, Nat.div_eq_of_lt (Nat.lt_of_lt_of_le h (Nat.pow_le_pow_right (by decide) (by omega)))]
    rw [Nat.pow_succ, Nat.mul_comm (2 ^ j) 2, Nat.mul_assoc]; simp
theorem rev_up {p k n : Nat} (h : p < 2 ^ k) (hk : k ≤ n) : rev p k * 2 ^ (n - k) = rev p n := by
  have := rev_more h (n - k)
  rw [show k + (n - k) = n by omega] at this
  rw [this, Nat.mul_comm]
theorem rev_R : rev R 32 = 79764919 := by decide +kernel
theorem rev_half {c : Nat} (h : c < 4294967296) : rev (c / 2) 32 = if c % 2 = 1 then rev c 32 <<< 1 ^^^ 4294967296 else rev c 32 <<< 1 := by
  have hb0 : c.testBit 0 = decide (c % 2 = 1) := Nat.testBit_zero c
  have key : ∀ j, (rev (c / 2) 32).testBit j = ((rev c 32 <<< 1).testBit j && decide (j ≠ 32)) := by
    intro j
    rw [rev_bit, Nat.testBit_shiftLeft, rev_bit]
    by_cases hj : j < 32
    · rw [← Nat.testBit_succ c]
      cases j with
      | zero =>
        have : c.testBit 32 = false := bit_ge (n := 32) h (by omega)
        simp [this]
      | succ j => simp [hj, show j < 32 by omega, show 30 - j + 1 = 31 - j by omega, show j ≠ 31 by omega]
    · by_cases e : j = 32
      · subst e; simp
      · simp [hj, show ¬ (j - 1 < 32) by omega]
  apply Nat.eq_of_testBit_eq
  intro j
  rw [key]
  have top : (rev c 32 <<< 1).testBit 32 = decide (c % 2 = 1) := by
    rw [Nat.testBit_shiftLeft, rev_bit]; simp [hb0]
  have two : (4294967296 : Nat).testBit j = decide (j = 32) := by
    rw [show (4294967296 : Nat) = 2 ^ 32 from rfl, Nat.testBit_two_pow]
    simp [eq_comm]
  split
  · rename_i h1
    rw [Nat.testBit_xor, two]
    by_cases e : j = 32
    · subst e; simp [top, h1]
    · simp [e]
  · rename_i h1
    by_cases e : j = 32
    · subst e; simp [top, h1]
    · simp [e]
theorem rev_step {c : Nat} (h : c < 4294967296) : rev (step c) 32 = pmod (rev c 32 <<< 1) G := by
  have hl : plen (rev c 32) < plen G := by rw [plen_G]; have := plen_le.2 (rev_lt c 32); omega
  rw [pmod_step G_ne hl, plen_G]
  have top : (rev c 32 <<< 1).testBit (33 - 1) = decide (c % 2 = 1) := by
    rw [Nat.testBit_shiftLeft, rev_bit]; simp
  rw [top]
  unfold step
  by_cases h1 : c % 2 = 1
  · rw [if_pos h1, rev_xor, rev_half h, if_pos h1, rev_R, Nat.xor_assoc]
    simp [h1, G]
  · rw [if_neg h1, rev_half h, if_neg h1]
    simp [h1]
theorem rev_stepN (n : Nat) : ∀ {c : Nat}, c < 4294967296 → rev (stepN n c) 32 = pmod (rev c 32 <<< n) G := by
  induction n with
  | zero =>
    intro c h
    rw [stepN, Nat.shiftLeft_zero, pmod_small G_ne]
    rw [plen_G]; have := plen_le.2 (rev_lt c 32); omega
  | succ n ih =>
    intro c h
    rw [stepN, ih (step_lt h), rev_step h, pmod_shl _ _ G_ne, ← Nat.shiftLeft_add, Nat.add_comm 1 n]
/-- What Shift reckons. -/
theorem shift_eq {c : Nat} (h : c < 4294967296) (n : Nat) :
    rev (pmod (pmul (rev c 32) (pmod (1 <<< n) G)) G) 32 = stepN n c := by
  rw [pmod_mul_right _ _ G_ne, pmul_shl_eq, ← rev_stepN n h, rev_rev (stepN_lt n h)]

/-- The polynomial of bytes. -/
def bpoly (bs : List Nat) : Nat := bs.foldl (fun p x => p <<< 8 ^^^ rev x 8) 0
theorem bpoly_snoc (bs : List Nat) (x : Nat) : bpoly (bs ++ [x]) = bpoly bs <<< 8 ^^^ rev x 8 := by simp [bpoly]
theorem snoc_ind {α : Type} {P : List α → Prop} (h0 : P []) (hs : ∀ l x, P l → P (l ++ [x])) : ∀ l, P l := by
  intro l
  have : ∀ n (l : List α), l.length = n → P l := by
    intro n
    induction n with
    | zero => intro l h; rw [List.length_eq_zero_iff.1 h]; exact h0
    | succ n ih =>
      intro l h
      have hne : l ≠ [] := by intro e; subst e; simp at h
      rw [← List.dropLast_concat_getLast hne]
      exact hs _ _ (ih _ (by simp [h]))
  exact this _ l rfl
theorem bpoly_lt (bs : List Nat) : bpoly bs < 2 ^ (8 * bs.length) := by
  refine snoc_ind (P := fun bs => bpoly bs < 2 ^ (8 * bs.length)) ?_ ?_ bs
  · simp [bpoly]
  · intro bs x ih
    rw [bpoly_snoc, List.length_append, List.length_singleton]
    refine Nat.xor_lt_two_pow ?_ (Nat.lt_of_lt_of_le (rev_lt x 8) (Nat.pow_le_pow_right (by decide) (by omega)))
    rw [Nat.shiftLeft_eq, show 8 * (bs.length + 1) = 8 * bs.length + 8 by omega, Nat.pow_add]
    exact Nat.mul_lt_mul_of_pos_right ih (by decide)
/-- The bits of the polynomial of bytes are theirs, from the last one on. -/
theorem bpoly_bit (bs : List Nat) : ∀ k, k < 8 * bs.length → (bpoly bs).testBit (8 * bs.length - 1 - k) = (bs.getD (k / 8) 0).testBit (k % 8) := by
  refine snoc_ind (P := fun bs => ∀ k, k < 8 * bs.length → (bpoly bs).testBit (8 * bs.length - 1 - k) = (bs.getD (k / 8) 0).testBit (k % 8)) ?_ ?_ bs
  · intro k h; simp at h
  · intro bs x ih k h
    rw [List.length_append, List.length_singleton] at h ⊢
    rw [bpoly_snoc, Nat.testBit_xor, Nat.testBit_shiftLeft, rev_bit]
    by_cases hk : k < 8 * bs.length
    · have h1 := ih k hk
      rw [show 8 * (bs.length + 1) - 1 - k - 8 = 8 * bs.length - 1 - k by omega, h1]
      have h2 : (bs ++ [x]).getD (k / 8) 0 = bs.getD (k / 8) 0 := by
        simp only [List.getD_eq_getElem?_getD]
        rw [List.getElem?_append_left (by omega)]
      rw [h2]
      simp [show 8 ≤ 8 * (bs.length + 1) - 1 - k by omega, show ¬ 8 * (bs.length + 1) - 1 - k < 8 by omega]
    · have h2 : (bs ++ [x]).getD (k / 8) 0 = x := by
        simp only [List.getD_eq_getElem?_getD]
        rw [List.getElem?_append_right (by omega), show k / 8 - bs.length = 0 by omega]
        simp
      rw [h2]
      simp [show ¬ 8 ≤ 8 * (bs.length + 1) - 1 - k by omega, show 8 * (bs.length + 1) - 1 - k < 8 by omega,
        show 7 - (8 * (bs.length + 1) - 1 - k) = k % 8 by omega]
theorem rev32_byte {x : Nat} (hx : x < 256) : rev x 32 = rev x 8 <<< 24 := by
  apply Nat.eq_of_testBit_eq
  intro j
  rw [Nat.testBit_shiftLeft, rev_bit, rev_bit]
  by_cases h : j < 32
  · by_cases h' : 24 ≤ j
    · simp [h, h', show j - 24 < 8 by omega, show 31 - j = 7 - (j - 24) by omega]
    · have : x.testBit (31 - j) = false := bit_ge (n := 8) (by omega) (by omega)
      simp [h', this]
  · simp [h, show ¬ j - 24 < 8 by omega]
/-- The register after bytes, from 0 on, is the remainder of their polynomial times x^32. -/
theorem run_poly (bs : List Nat) : (∀ x ∈ bs, x < 256) → rev (run 0 bs) 32 = pmod (bpoly bs <<< 32) G := by
  refine snoc_ind (P := fun bs => (∀ x ∈ bs, x < 256) → rev (run 0 bs) 32 = pmod (bpoly bs <<< 32) G) ?_ ?_ bs
  · intro _; simp [run, bpoly, rev_zero, pmod_zero G_ne]
  · intro bs x ih h
    have hx : x < 256 := h x (by simp)
    have hb : ∀ y ∈ bs, y < 256 := fun y hy => h y (by simp [hy])
    have hr : run 0 bs < 4294967296 := run_lt (by decide) hb
    rw [run_snoc, bpoly_snoc]
    unfold byteR
    rw [rev_stepN 8 (Nat.xor_lt_two_pow (n := 32) hr (by omega)), rev_xor, ih hb, rev32_byte hx, Nat.shiftLeft_xor_distrib, pmod_xor _ _ G_ne,
      pmod_shl _ _ G_ne, Nat.shiftLeft_xor_distrib, pmod_xor _ _ G_ne, ← Nat.shiftLeft_add, ← Nat.shiftLeft_add, ← Nat.shiftLeft_add]
/-- The linear part by the definition. -/
def lin (bs : List Nat) : Nat := rev (pmod (bpoly bs <<< 32) G) 32
theorem lin_eq (bs : List Nat) (h : ∀ x ∈ bs, x < 256) : lin bs = run 0 bs := by
  unfold lin; rw [← run_poly bs h]; exact rev_rev (run_lt (by decide) h)
theorem lin_one {x : Nat} (hx : x < 256) : lin [x] = stepN 8 x := by
  rw [lin_eq _ (by simpa using hx)]; simp [run, byteR]
/-- One byte by the definition. -/
theorem byteR_lin {c x : Nat} (hx : x < 256) : byteR c x = c / 256 ^^^ lin [c % 256 ^^^ x] := by
  have : c % 256 ^^^ x < 2 ^ 8 := Nat.xor_lt_two_pow (by omega) (by omega)
  rw [byteR_split hx, lin_one (by omega)]
theorem run_xor : ∀ (a b : List Nat) (c d : Nat), a.length = b.length → run (c ^^^ d) (List.zipWith (· ^^^ ·) a b) = run c a ^^^ run d b := by
  intro a
  induction a with
  | nil => intro b c d h; cases b with
    | nil => rfl
    | cons _ _ => simp at h
  | cons x a ih => intro b c d h; cases b with
    | nil => simp at h
    | cons y b =>
      simp only [List.zipWith_cons_cons, run, List.foldl_cons]
      rw [byteR_xor]
      exact ih b _ _ (by simpa using h)
theorem run_zeros (c n : Nat) : run c (List.replicate n 0) = stepN (8 * n) c := by
  induction n generalizing c with
  | zero => rfl
  | succ n ih =>
    rw [List.replicate_succ, show 8 * (n + 1) = 8 + 8 * n by omega, stepN_add, ← ih]
    simp [run, byteR]
theorem run_zeros_left (n : Nat) (a : List Nat) : run 0 (List.replicate n 0 ++ a) = run 0 a := by
  rw [run_append, run_zeros, stepN_zero]
/-- What a register brings to the end. -/
theorem run_start (c : Nat) (a : List Nat) : run c a = stepN (8 * a.length) c ^^^ run 0 a := by
  have h := run_xor (List.replicate a.length 0) a c 0 (by simp)
  rw [Nat.xor_zero, run_zeros] at h
  rw [← h]
  congr 1
  apply List.ext_getElem?
  intro i
  rw [List.getElem?_zipWith]
  by_cases hi : i < a.length <;> simp [hi]
/-- Inverted. -/
def inv (c : Nat) : Nat := 4294967295 - c
theorem inv_eq {c : Nat} (h : c < 4294967296) : inv c = c ^^^ 4294967295 := by
  unfold inv
  apply Nat.eq_of_testBit_eq
  intro i
  rw [show 4294967295 - c = 2 ^ 32 - (c + 1) by omega, Nat.testBit_two_pow_sub_succ (n := 32) h, Nat.testBit_xor, show (4294967295 : Nat) = 2 ^ 32 - 1 from rfl, Nat.testBit_two_pow_sub_one]
  by_cases hi : i < 32
  · simp [hi]
  · simp [hi, bit_ge (n := 32) h (show 32 ≤ i by omega)]
theorem inv_lt (c : Nat) : inv c < 4294967296 := by unfold inv; omega
theorem inv_inv {c : Nat} (h : c < 4294967296) : inv (inv c) = c := by unfold inv; omega
/-- The checksum. -/
def update (c : Nat) (bs : List Nat) : Nat := inv (run (inv c) bs)
def sum (bs : List Nat) : Nat := update 0 bs
theorem update_lt (c : Nat) (bs : List Nat) : update c bs < 4294967296 := inv_lt _
/-- The four bytes of a number. -/
def four (c : Nat) : List Nat := [c % 256, c / 256 % 256, c / 65536 % 256, c / 16777216 % 256]
def sealB (bs : List Nat) : List Nat := bs ++ four (sum bs)
def sealed (bs : List Nat) : Bool := decide (4 ≤ bs.length) && (sealB (bs.take (bs.length - 4)) == bs)
/-- One bit of bytes: m bytes after its own, j its place in that byte. -/
theorem bit_val (m j : Nat) (hj : j < 8) : stepN (8 * m) (stepN 8 (2 ^ j)) = stepN (8 * m + 7 - j) R := by
  rw [← stepN_add]
  have h1 : stepN j (2 ^ j) = 1 := by have := stepN_pow j 1; rwa [Nat.mul_one] at this
  rw [show 8 + 8 * m = j + (1 + (8 * m + 7 - j)) by omega, stepN_add, h1, stepN_add]
  rfl
/-- The table of halves is four steps. -/
def half (i : Nat) : Nat := stepN 4 i
theorem half_step (c : Nat) : stepN 4 c = c / 16 ^^^ half (c % 16) := stepN_split 4 c
theorem byteR_halves (c x : Nat) : byteR c x = stepN 4 (stepN 4 (c ^^^ x)) := by unfold byteR; rw [← stepN_add]
end Gf
namespace Go.Proofs.YtmjigpnpcacefaaDoor
open Go Go.RowKit Go.Shelf
attribute [local go_sem] Oper.semAt_some

theorem wide_fn (f : FuncId) : Fence.wide.fn f = True := rfl
attribute [local go_sem] wide_fn

theorem cell_of_box_l {W : World} {B : Nat} {v : Value} {t : TypeId} (h : W.heap[B]? = some (.cells #[v] t (0, 0))) : W.cell? ⟨B, 0, none⟩ = some v ∧ W.frozen? ⟨B, 0, none⟩ = false := by
  constructor <;> simp [World.cell?, World.frozen?, h]
theorem cell_new_l (W : World) (v : Value) (t : TypeId) : (W.alloc (.cells #[v] t)).cell? ⟨W.heap.size, 0, none⟩ = some v ∧ (W.alloc (.cells #[v] t)).frozen? ⟨W.heap.size, 0, none⟩ = false :=
  cell_of_box_l (World.alloc_heap_new W _)
theorem cell_alloc_l {W : World} {a : Addr} {v : Value} (o : Obj) (h : W.cell? a = some v) : (W.alloc o).cell? a = some v := cell_kept h (World.grownBy_alloc W o none) (fun r e => by cases e)
theorem frozen_alloc_l {W : World} {a : Addr} {v : Value} (o : Obj) (h : W.cell? a = some v) (hf : W.frozen? a = false) : (W.alloc o).frozen? a = false := (frozen_kept h (World.grownBy_alloc W o none) (fun r e => by cases e)).trans hf

/-- A bit that is asked for by the program. -/
theorem and_bit (p k : Nat) (h : p < 18446744073709551616) : bits BinOp.and IntKind.u64 ((p : Int) / 2 ^ k) 1 = ((p / 2 ^ k % 2 : Nat) : Int) := by
  have e : ((p : Int) / 2 ^ k) = ((p / 2 ^ k : Nat) : Int) := by simp
  rw [e, show (1 : Int) = ((1 : Nat) : Int) from rfl, u64_and_nat _ _ (Nat.lt_of_le_of_lt (Nat.div_le_self _ _) h) (by decide), nat_mask1]
theorem and_bit_beq (p k : Nat) (h : p < 18446744073709551616) : (bits BinOp.and IntKind.u64 ((p : Int) / 2 ^ k) 1 == 1) = p.testBit k := by
  rw [and_bit p k h, Nat.testBit_eq_decide_div_mod_eq]
  rcases Nat.mod_two_eq_zero_or_one (p / 2 ^ k) with h | h <;> rw [h] <;> rfl

/-- The exponents below k, the greatest one first. -/
def expo (p : Nat) : Nat → List (Fin 64)
  | 0 => []
  | k + 1 => if h : k < 64 ∧ p.testBit k = true then ⟨k, h.1⟩ :: expo p k else expo p k




/-- The first exponent is the degree. -/
theorem expo_head (p : Nat) : ∀ k x l, k ≤ 64 → expo p k = x :: l → p < 2 ^ k → Gf.plen p = x.val + 1 := by
  intro k
  induction k with
  | zero => intro x l _ h; simp [expo] at h
  | succ k ih =>
    intro x l h64 h hp
    rw [expo] at h
    split at h
    · rename_i hk
      cases h
      exact Gf.plen_eq hp hk.2
    · rename_i hk
      have hb : p.testBit k = false := by
        cases hh : p.testBit k
        · rfl
        · exact absurd ⟨by omega, hh⟩ hk
      refine ih x l (by omega) h (Gf.lt_of_bits fun i hi => ?_)
      by_cases e : i = k
      · subst e; exact hb
      · exact Gf.bit_ge hp (by omega)
theorem expo_nil (p : Nat) : ∀ k, k ≤ 64 → expo p k = [] → p < 2 ^ k → p = 0 := by
  intro k
  induction k with
  | zero => intro _ _ hp; simpa using hp
  | succ k ih =>
    intro h64 h hp
    rw [expo] at h
    split at h
    · cases h
    · rename_i hk
      have hb : p.testBit k = false := by
        cases hh : p.testBit k
        · rfl
        · exact absurd ⟨by omega, hh⟩ hk
      refine ih (by omega) h (Gf.lt_of_bits fun i hi => ?_)
      by_cases e : i = k
      · subst e; exact hb
      · exact Gf.bit_ge hp (by omega)


end Go.Proofs.YtmjigpnpcacefaaDoor
namespace Go.Proofs.YtmjigpnpcacefaaDoor
open Go Go.RowKit Go.Shelf

theorem bel_refl (w : World) : Below w.heap.size w w := Below.refl _ _
theorem bel_trans {n : Nat} {A B C : World} (h : Below n A B) (h' : Below B.heap.size B C) (hn : n ≤ B.heap.size) : Below n A C := h.trans (h'.mono hn)

theorem wrap_shl {b m : Nat} (h : b * 2 ^ m < 18446744073709551616) : IntKind.u64.wrap ((b : Int) * 2 ^ m) = ((b <<< m : Nat) : Int) := by
  rw [IntKind.wrap_u64, Nat.shiftLeft_eq, show ((b : Int) * 2 ^ m) = ((b * 2 ^ m : Nat) : Int) by simp]
  omega
theorem two_pow_lt {m : Nat} (h : m < 64) : 2 ^ m < 18446744073709551616 := show 2 ^ m < 2 ^ 64 from Nat.pow_lt_pow_right (by decide) h
theorem one_shl_lt {m : Nat} (h : m < 64) : 1 <<< m < 18446744073709551616 := by rw [Nat.one_shiftLeft]; exact two_pow_lt h
theorem plen_le64 {a : Nat} (h : a < 18446744073709551616) : Gf.plen a ≤ 64 := Gf.plen_le.2 h
theorem lt64_of_plen {a : Nat} (h : Gf.plen a ≤ 64) : a < 18446744073709551616 := (Gf.plen_le (n := 64)).1 h
theorem wrap_shl_one {m : Nat} (h : m < 64) : IntKind.u64.wrap ((2 : Int) ^ m) = ((1 <<< m : Nat) : Int) := by
  have := wrap_shl (b := 1) (m := m) (by rw [Nat.one_mul]; exact two_pow_lt h)
  simpa using this
theorem xor_shl {a b m : Nat} (ha : a < 18446744073709551616) (h : b <<< m < 18446744073709551616) :
    bits BinOp.xor IntKind.u64 (a : Int) (IntKind.u64.wrap ((b : Int) * 2 ^ m)) = ((a ^^^ b <<< m : Nat) : Int) := by
  rw [wrap_shl (by rw [← Nat.shiftLeft_eq]; exact h), u64_xor_nat _ _ ha h]
theorem or_xor {a b : Nat} (h : ∀ i, b.testBit i = true → a.testBit i = false) : a ||| b = a ^^^ b := by
  apply Nat.eq_of_testBit_eq
  intro i
  rw [Nat.testBit_or, Nat.testBit_xor]
  have := h i
  cases ha : a.testBit i <;> cases hb : b.testBit i <;> simp_all
theorem one_shl_bit (m i : Nat) : (1 <<< m).testBit i = decide (i = m) := by
  rw [Nat.one_shiftLeft, Nat.testBit_two_pow]
  simp [eq_comm]
theorem or_shl_one {q m : Nat} (hq : q < 18446744073709551616) (h : m < 64) (hb : q.testBit m = false) :
    bits BinOp.or IntKind.u64 (q : Int) (IntKind.u64.wrap ((2 : Int) ^ m)) = ((q ^^^ 1 <<< m : Nat) : Int) := by
  have hl := one_shl_lt h
  rw [wrap_shl_one h, u64_or_nat _ _ hq hl, or_xor]
  intro i hi
  rw [one_shl_bit] at hi
  have : i = m := by simpa using hi
  rw [this]; exact hb



theorem shl_one_u64 {a : Nat} (h : a < 9223372036854775808) : IntKind.u64.wrap ((a : Int) * 2) = ((a <<< 1 : Nat) : Int) := by
  have := wrap_shl (b := a) (m := 1) (by omega)
  simpa using this





end Go.Proofs.YtmjigpnpcacefaaDoor
namespace Go.Proofs.YtmjigpnpcacefaaDoor
open Go Go.RowKit Go.Shelf

theorem cell_lt {w : World} {b o : Nat} {v : Value} (h : w.cell? ⟨b, o, none⟩ = some v) : b < w.heap.size := by
  obtain ⟨ob, hb, _⟩ := cells_of_cell h
  exact (Array.getElem?_eq_some_iff.1 hb).1
theorem cell_keep {w w' : World} {n b o : Nat} {v : Value} (hB : Below n w w') (h : w.cell? ⟨b, o, none⟩ = some v) (hn : b < n) : w'.cell? ⟨b, o, none⟩ = some v :=
  (hB.cell (p := ⟨b, o, none⟩) hn).trans h



end Go.Proofs.YtmjigpnpcacefaaDoor
namespace Go.Proofs.YtmjigpnpcacefaaDoor
open Go Go.RowKit Go.Shelf

/-- The slice value reads as these numbers. -/
def Reads (k : IntKind) (w : World) (v : Value) (xs : List Nat) : Prop :=
  ∃ (a : Option Addr) (cap : Nat), v = .slice a xs.length cap ∧ xs.length ≤ cap ∧ cap ≤ 9223372036854775807 ∧
    (cap = 0 ∨ ∃ b off, a = some ⟨b, off, none⟩ ∧ ∀ i, i < xs.length → w.cell? ⟨b, off + i, none⟩ = some (.int k ((xs[i]?.getD 0 : Nat) : Int)))
theorem Reads.keep {k : IntKind} {w w' : World} {v : Value} {xs : List Nat} {n : Nat} (h : Reads k w v xs) (hB : Below n w w') (hn : w.heap.size ≤ n) : Reads k w' v xs := by
  obtain ⟨a, cap, rfl, hl, hm, hc⟩ := h
  refine ⟨a, cap, rfl, hl, hm, ?_⟩
  rcases hc with h | ⟨b, off, e, hcell⟩
  · exact .inl h
  · exact .inr ⟨b, off, e, fun i hi => cell_keep hB (hcell i hi) (Nat.lt_of_lt_of_le (cell_lt (hcell i hi)) hn)⟩
theorem Reads.len {k : IntKind} {w : World} {v : Value} {xs : List Nat} (h : Reads k w v xs) : xs.length ≤ 9223372036854775807 := by
  obtain ⟨a, cap, rfl, hl, hm, hc⟩ := h; omega
theorem reads_one (k : IntKind) (w : World) (z : Int) (t : TypeId) (x : Nat) (h : z = (x : Int)) : Reads k (w.alloc (.cells #[.int k z] t)) (.slice (some ⟨w.heap.size, 0, none⟩) 1 1) [x] := by
  refine ⟨_, 1, rfl, by simp, by decide, .inr ⟨_, _, rfl, fun i hi => ?_⟩⟩
  obtain rfl : i = 0 := by simpa using hi
  subst h
  exact (cell_new_l w _ t).1
/-- A name for a value. -/
theorem nm {α : Type} (x : α) : ∃ r, Hid (x = r) := ⟨x, rfl⟩
/-- All are bytes. -/
def Bytes (xs : List Nat) : Prop := ∀ x ∈ xs, x < 256
theorem Bytes.get {xs : List Nat} (h : Bytes xs) (i : Nat) : xs[i]?.getD 0 < 256 := by
  cases e : xs[i]? with
  | none => decide
  | some x => exact h x (List.mem_of_getElem? e)
end Go.Proofs.YtmjigpnpcacefaaDoor
