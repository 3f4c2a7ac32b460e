/- Polynomials over the field of two elements, written as natural numbers: plain mathematics, no program. -/
namespace Gf

/-- The number of coefficients (the degree and one). -/
def plen (p : Nat) : Nat := if p = 0 then 0 else p.log2 + 1

theorem plen_zero : plen 0 = 0 := rfl
theorem plen_le {p n : Nat} : plen p ≤ n ↔ p < 2 ^ n := by
  unfold plen
  split
  · rename_i h; subst h; exact ⟨fun _ => Nat.two_pow_pos n, fun _ => Nat.zero_le _⟩
  · rename_i h; rw [Nat.succ_le_iff, Nat.log2_lt h]
theorem lt_two_plen (p : Nat) : p < 2 ^ plen p := plen_le.1 (Nat.le_refl _)
theorem plen_pos {p : Nat} (h : p ≠ 0) : 0 < plen p := by unfold plen; rw [if_neg h]; omega
theorem plen_eq_zero {p : Nat} : plen p = 0 ↔ p = 0 := by
  constructor
  · intro h; apply Classical.byContradiction; intro hp; have := plen_pos hp; omega
  · rintro rfl; rfl
theorem plen_top {p : Nat} (h : p ≠ 0) : p.testBit (plen p - 1) = true := by
  unfold plen; rw [if_neg h]; simpa using Nat.testBit_log2 h
theorem bit_ge {p n i : Nat} (h : p < 2 ^ n) (hi : n ≤ i) : p.testBit i = false :=
  Nat.testBit_lt_two_pow (Nat.lt_of_lt_of_le h (Nat.pow_le_pow_right (by decide) hi))
theorem bit_plen {p i : Nat} (hi : plen p ≤ i) : p.testBit i = false := bit_ge (lt_two_plen p) hi
theorem lt_plen_of_bit {p i : Nat} (h : p.testBit i = true) : i < plen p := by
  apply Classical.byContradiction; intro hn
  rw [bit_plen (by omega)] at h; cases h
theorem plen_mono {p q : Nat} (h : p ≤ q) : plen p ≤ plen q := plen_le.2 (Nat.lt_of_le_of_lt h (lt_two_plen q))
theorem plen_eq {p n : Nat} (h1 : p < 2 ^ (n + 1)) (h2 : p.testBit n = true) : plen p = n + 1 := by
  have := plen_le.2 h1; have := lt_plen_of_bit h2; omega
theorem lt_of_bits {p n : Nat} (h : ∀ i, n ≤ i → p.testBit i = false) : p < 2 ^ n := Nat.lt_pow_two_of_testBit p h
theorem plen_xor_le (a b : Nat) : plen (a ^^^ b) ≤ max (plen a) (plen b) :=
  plen_le.2 (Nat.xor_lt_two_pow (Nat.lt_of_lt_of_le (lt_two_plen a) (Nat.pow_le_pow_right (by decide) (Nat.le_max_left _ _)))
    (Nat.lt_of_lt_of_le (lt_two_plen b) (Nat.pow_le_pow_right (by decide) (Nat.le_max_right _ _))))
theorem plen_shl {a : Nat} (h : a ≠ 0) (i : Nat) : plen (a <<< i) = plen a + i := by
  have hp := plen_pos h
  have h1 : a <<< i < 2 ^ (plen a + i) := by
    rw [Nat.shiftLeft_eq, Nat.pow_add]; exact Nat.mul_lt_mul_of_pos_right (lt_two_plen a) (Nat.two_pow_pos i)
  have h2 : (a <<< i).testBit (plen a - 1 + i) = true := by
    rw [Nat.testBit_shiftLeft]; simp [plen_top h]
  have := plen_eq (n := plen a - 1 + i) (by rw [show plen a - 1 + i + 1 = plen a + i by omega]; exact h1) h2
  omega
theorem plen_shl_le (a i : Nat) : plen (a <<< i) ≤ plen a + i := by
  by_cases h : a = 0
  · subst h; simp [plen_zero]
  · rw [plen_shl h]; exact Nat.le_refl _
/-- Two of one length: the sum is shorter. -/
theorem plen_xor_lt {a b : Nat} (ha : a ≠ 0) (h : plen a = plen b) : plen (a ^^^ b) < plen a := by
  have hp := plen_pos ha
  have hb : b ≠ 0 := by intro hb; subst hb; rw [plen_zero] at h; omega
  have h1 : a ^^^ b < 2 ^ (plen a - 1) := by
    apply lt_of_bits
    intro i hi
    rw [Nat.testBit_xor]
    by_cases e : i = plen a - 1
    · subst e; rw [plen_top ha, h, plen_top hb]; rfl
    · rw [bit_plen (p := a) (by omega), bit_plen (p := b) (by omega)]; rfl
  have := plen_le.2 h1; omega
theorem plen_xor_left {a b : Nat} (h : plen b < plen a) : plen (a ^^^ b) = plen a := by
  have ha : a ≠ 0 := by intro e; subst e; rw [plen_zero] at h; omega
  have hp := plen_pos ha
  have h1 := plen_xor_le a b
  have h2 : (a ^^^ b).testBit (plen a - 1) = true := by rw [Nat.testBit_xor, plen_top ha, bit_plen (p := b) (by omega)]; rfl
  have h3 := lt_plen_of_bit h2
  rw [Nat.max_eq_left (by omega)] at h1; omega

theorem xor_cancel (a b : Nat) : a ^^^ b ^^^ b = a := by rw [Nat.xor_assoc, Nat.xor_self, Nat.xor_zero]
theorem xor_cancel' (a b : Nat) : b ^^^ (b ^^^ a) = a := by rw [← Nat.xor_assoc, Nat.xor_self, Nat.zero_xor]
theorem xor_eq_zero {a b : Nat} : a ^^^ b = 0 ↔ a = b := by
  constructor
  · intro h; have := xor_cancel a b; rw [h, Nat.zero_xor] at this; exact this.symm
  · rintro rfl; exact Nat.xor_self _
theorem xor_left_comm (a b c : Nat) : a ^^^ (b ^^^ c) = b ^^^ (a ^^^ c) := by rw [← Nat.xor_assoc, Nat.xor_comm a b, Nat.xor_assoc]
theorem xor_right_comm (a b c : Nat) : a ^^^ b ^^^ c = a ^^^ c ^^^ b := by rw [Nat.xor_assoc, Nat.xor_comm b c, Nat.xor_assoc]
theorem xor_xor_comm (a b c d : Nat) : (a ^^^ b) ^^^ (c ^^^ d) = (a ^^^ c) ^^^ (b ^^^ d) := by
  rw [Nat.xor_assoc, xor_left_comm b c d, ← Nat.xor_assoc]

/-- The product, by the coefficients of the second factor below n. -/
def pmulN (a b : Nat) : Nat → Nat
  | 0 => 0
  | n + 1 => pmulN a b n ^^^ (if b.testBit n then a <<< n else 0)
/-- The product. -/
def pmul (a b : Nat) : Nat := pmulN a b (plen b)

theorem pmulN_more (a b : Nat) {n m : Nat} (h : plen b ≤ n) (hm : n ≤ m) : pmulN a b m = pmulN a b n := by
  induction m with
  | zero => rw [show n = 0 by omega]
  | succ m ih =>
    by_cases e : n = m + 1
    · rw [e]
    · rw [pmulN, ih (by omega), bit_plen (p := b) (by omega)]; simp
theorem pmul_eq (a b : Nat) {n : Nat} (h : plen b ≤ n) : pmul a b = pmulN a b n := (pmulN_more a b (Nat.le_refl _) h).symm
theorem pmulN_xor_left (a a' b n : Nat) : pmulN (a ^^^ a') b n = pmulN a b n ^^^ pmulN a' b n := by
  induction n with
  | zero => simp [pmulN]
  | succ n ih =>
    rw [pmulN, pmulN, pmulN, ih, xor_xor_comm]
    split
    · rw [Nat.shiftLeft_xor_distrib]
    · simp
theorem pmulN_xor_right (a b b' n : Nat) : pmulN a (b ^^^ b') n = pmulN a b n ^^^ pmulN a b' n := by
  induction n with
  | zero => simp [pmulN]
  | succ n ih =>
    rw [pmulN, pmulN, pmulN, ih, xor_xor_comm, Nat.testBit_xor]
    cases b.testBit n <;> cases b'.testBit n <;> simp
theorem pmulN_zero_left (b n : Nat) : pmulN 0 b n = 0 := by
  induction n with
  | zero => rfl
  | succ n ih => rw [pmulN, ih]; simp
theorem pmulN_zero_right (a n : Nat) : pmulN a 0 n = 0 := by
  induction n with
  | zero => rfl
  | succ n ih => rw [pmulN, ih]; simp
theorem pmulN_shl_left (a b i n : Nat) : pmulN (a <<< i) b n = pmulN a b n <<< i := by
  induction n with
  | zero => simp [pmulN]
  | succ n ih =>
    rw [pmulN, pmulN, ih, Nat.shiftLeft_xor_distrib]
    split
    · rw [← Nat.shiftLeft_add, ← Nat.shiftLeft_add, Nat.add_comm]
    · simp
theorem pmulN_shl_one (a b n : Nat) : pmulN a (b <<< 1) (n + 1) = pmulN a b n <<< 1 := by
  induction n with
  | zero => simp [pmulN]
  | succ n ih =>
    rw [pmulN, ih, pmulN, Nat.shiftLeft_xor_distrib, Nat.testBit_shiftLeft]
    simp only [ge_iff_le, Nat.le_add_left, decide_true, Nat.add_sub_cancel, Bool.true_and]
    split
    · rw [← Nat.shiftLeft_add]
    · simp
theorem pmulN_one_left (b n : Nat) : pmulN 1 b n = b % 2 ^ n := by
  induction n with
  | zero => simp [pmulN, Nat.mod_one]
  | succ n ih =>
    rw [pmulN, ih]
    apply Nat.eq_of_testBit_eq
    intro i
    rw [Nat.testBit_xor, Nat.testBit_mod_two_pow, Nat.testBit_mod_two_pow]
    by_cases h : b.testBit n = true
    · rw [if_pos h, Nat.testBit_shiftLeft]
      by_cases e : i = n
      · subst e; simp [h]
      · by_cases hlt : i < n
        · simp [hlt, show i < n + 1 by omega, show ¬ n ≤ i by omega]
        · have : (1 : Nat).testBit (i - n) = false := by
            obtain ⟨k, hk⟩ : ∃ k, i - n = k + 1 := ⟨i - n - 1, by omega⟩
            rw [hk, Nat.testBit_succ]; simp
          simp [hlt, show ¬ i < n + 1 by omega, this]
    · rw [if_neg h]
      have hf : b.testBit n = false := by simpa using h
      by_cases e : i = n
      · subst e; simp [hf]
      · by_cases hlt : i < n
        · simp [hlt, show i < n + 1 by omega]
        · simp [hlt, show ¬ i < n + 1 by omega]

theorem pmul_zero_left (b : Nat) : pmul 0 b = 0 := pmulN_zero_left _ _
theorem pmul_zero_right (a : Nat) : pmul a 0 = 0 := rfl
theorem pmul_xor_left (a a' b : Nat) : pmul (a ^^^ a') b = pmul a b ^^^ pmul a' b := pmulN_xor_left _ _ _ _
theorem pmul_xor_right (a b b' : Nat) : pmul a (b ^^^ b') = pmul a b ^^^ pmul a b' := by
  have h1 := pmul_eq a (b ^^^ b') (plen_xor_le b b')
  rw [h1, pmul_eq a b (Nat.le_max_left (plen b) (plen b')), pmul_eq a b' (Nat.le_max_right (plen b) (plen b'))]
  exact pmulN_xor_right _ _ _ _
theorem pmul_shl_left (a b i : Nat) : pmul (a <<< i) b = pmul a b <<< i := pmulN_shl_left _ _ _ _
theorem pmul_one_left (b : Nat) : pmul 1 b = b := by
  unfold pmul; rw [pmulN_one_left]; exact Nat.mod_eq_of_lt (lt_two_plen b)
theorem pmul_one_right (a : Nat) : pmul a 1 = a := by
  show pmulN a 1 1 = a; simp [pmulN]
theorem pmul_shl_one_right (a b : Nat) : pmul a (b <<< 1) = pmul a b <<< 1 := by
  rw [pmul_eq a (b <<< 1) (plen_shl_le b 1)]; exact pmulN_shl_one _ _ _
theorem pmul_shl_right (a b i : Nat) : pmul a (b <<< i) = pmul a b <<< i := by
  induction i with
  | zero => simp
  | succ i ih => rw [Nat.shiftLeft_add, pmul_shl_one_right, ih, ← Nat.shiftLeft_add]

/-- A number is its upper bits, moved, and its lowest one. -/
theorem halves (a : Nat) : a = (a / 2) <<< 1 ^^^ a % 2 := by
  apply Nat.eq_of_testBit_eq
  intro i
  rw [Nat.testBit_xor, Nat.testBit_shiftLeft]
  cases i with
  | zero => rcases Nat.mod_two_eq_zero_or_one a with h | h <;> simp [Nat.testBit_zero, h]
  | succ i =>
    rw [Nat.testBit_succ a i]
    have : (a % 2).testBit (i + 1) = false := bit_ge (n := 1) (by omega) (by omega)
    simp [this]
/-- Induction by the bits. -/
theorem bit_ind {P : Nat → Prop} (h0 : P 0) (h1 : P 1) (hs : ∀ a, P a → P (a <<< 1)) (hx : ∀ a b, P a → P b → P (a ^^^ b)) : ∀ a, P a := by
  intro a
  induction a using Nat.strongRecOn with
  | ind a ih =>
    by_cases e : a = 0
    · subst e; exact h0
    · rw [halves a]
      refine hx _ _ (hs _ (ih _ (by omega))) ?_
      rcases Nat.mod_two_eq_zero_or_one a with h | h <;> rw [h]
      · exact h0
      · exact h1

theorem pmul_comm (a b : Nat) : pmul a b = pmul b a := by
  revert a
  refine bit_ind (P := fun a => pmul a b = pmul b a) ?_ ?_ ?_ ?_
  · rw [pmul_zero_left, pmul_zero_right]
  · rw [pmul_one_left, pmul_one_right]
  · intro a h; rw [pmul_shl_left, pmul_shl_one_right, h]
  · intro x y hx hy; rw [pmul_xor_left, pmul_xor_right, hx, hy]
theorem pmul_assoc (a b c : Nat) : pmul (pmul a b) c = pmul a (pmul b c) := by
  revert c
  refine bit_ind (P := fun c => pmul (pmul a b) c = pmul a (pmul b c)) ?_ ?_ ?_ ?_
  · rw [pmul_zero_right, pmul_zero_right, pmul_zero_right]
  · rw [pmul_one_right, pmul_one_right]
  · intro c h; rw [pmul_shl_one_right, pmul_shl_one_right, pmul_shl_one_right, h]
  · intro x y hx hy; rw [pmul_xor_right, pmul_xor_right, pmul_xor_right, hx, hy]
theorem pmul_left_comm (a b c : Nat) : pmul a (pmul b c) = pmul b (pmul a c) := by rw [← pmul_assoc, pmul_comm a b, pmul_assoc]
theorem pmul_shl_eq (a i : Nat) : pmul a (1 <<< i) = a <<< i := by rw [pmul_shl_right, pmul_one_right]

theorem pmulN_lt {a b : Nat} (ha : a ≠ 0) (n : Nat) : pmulN a b n < 2 ^ (plen a - 1 + n) := by
  have hp := plen_pos ha
  induction n with
  | zero => rw [pmulN]; exact Nat.two_pow_pos _
  | succ n ih =>
    rw [pmulN]
    refine Nat.xor_lt_two_pow (Nat.lt_of_lt_of_le ih (Nat.pow_le_pow_right (by decide) (by omega))) ?_
    split
    · exact plen_le.1 (by rw [plen_shl ha]; omega)
    · exact Nat.two_pow_pos _
theorem plen_pmul {a b : Nat} (ha : a ≠ 0) (hb : b ≠ 0) : plen (pmul a b) = plen a + plen b - 1 := by
  have pa := plen_pos ha
  have pb := plen_pos hb
  obtain ⟨n, hn⟩ : ∃ n, plen b = n + 1 := ⟨plen b - 1, by omega⟩
  have ht : b.testBit n = true := by have := plen_top hb; rw [hn] at this; simpa using this
  unfold pmul
  rw [hn, pmulN, if_pos ht]
  have h1 : plen (pmulN a b n) < plen (a <<< n) := by
    have := plen_le.2 (pmulN_lt (b := b) ha n); rw [plen_shl ha]; omega
  rw [Nat.xor_comm, plen_xor_left h1, plen_shl ha]; omega
theorem pmul_ne_zero {a b : Nat} (ha : a ≠ 0) (hb : b ≠ 0) : pmul a b ≠ 0 := by
  intro h
  have := plen_pmul ha hb
  rw [h, plen_zero] at this
  have pa := plen_pos ha
  have pb := plen_pos hb
  omega
theorem pmul_eq_zero {a b : Nat} (h : pmul a b = 0) : a = 0 ∨ b = 0 := by
  by_cases ha : a = 0
  · exact .inl ha
  · by_cases hb : b = 0
    · exact .inr hb
    · exact absurd h (pmul_ne_zero ha hb)

/-- Division with the remainder: the fuel is the dividend's length. -/
def pdm : Nat → Nat → Nat → Nat × Nat
  | 0, a, _ => (0, a)
  | f + 1, a, b => if plen b ≤ plen a then ((pdm f (a ^^^ b <<< (plen a - plen b)) b).1 ^^^ 1 <<< (plen a - plen b), (pdm f (a ^^^ b <<< (plen a - plen b)) b).2) else (0, a)
def pdiv (a b : Nat) : Nat := (pdm (plen a) a b).1
def pmod (a b : Nat) : Nat := (pdm (plen a) a b).2

theorem pdm_step_lt {a b : Nat} (hb : b ≠ 0) (h : plen b ≤ plen a) : plen (a ^^^ b <<< (plen a - plen b)) < plen a := by
  have pb := plen_pos hb
  have ha : a ≠ 0 := by intro e; subst e; rw [plen_zero] at h; omega
  exact plen_xor_lt ha (by rw [plen_shl hb]; omega)
theorem pdm_spec {b : Nat} (hb : b ≠ 0) (f : Nat) : ∀ a, plen a ≤ f → a = pmul (pdm f a b).1 b ^^^ (pdm f a b).2 ∧ plen (pdm f a b).2 < plen b := by
  have pb := plen_pos hb
  induction f with
  | zero =>
    intro a h
    rw [pdm]
    exact ⟨by rw [pmul_zero_left, Nat.zero_xor], by show plen a < _; omega⟩
  | succ f ih =>
    intro a h
    rw [pdm]
    split
    · rename_i hle
      obtain ⟨h1, h2⟩ := ih (a ^^^ b <<< (plen a - plen b)) (by have := pdm_step_lt hb hle; omega)
      refine ⟨?_, h2⟩
      show a = pmul (_ ^^^ _) b ^^^ _
      rw [pmul_xor_left, pmul_shl_left, pmul_one_left, xor_right_comm, ← h1, xor_cancel]
    · rename_i hlt
      exact ⟨by rw [pmul_zero_left, Nat.zero_xor], by show plen a < _; omega⟩
theorem pdiv_pmod (a : Nat) {b : Nat} (hb : b ≠ 0) : a = pmul (pdiv a b) b ^^^ pmod a b := (pdm_spec hb _ a (Nat.le_refl _)).1
theorem plen_pmod (a : Nat) {b : Nat} (hb : b ≠ 0) : plen (pmod a b) < plen b := (pdm_spec hb _ a (Nat.le_refl _)).2
theorem div_unique {a b q r : Nat} (hb : b ≠ 0) (h : a = pmul q b ^^^ r) (hr : plen r < plen b) : q = pdiv a b ∧ r = pmod a b := by
  have h1 := pdiv_pmod a hb
  have h2 := plen_pmod a hb
  have h3 : pmul (q ^^^ pdiv a b) b = r ^^^ pmod a b := by
    rw [pmul_xor_left]
    have : pmul q b ^^^ r ^^^ (pmul (pdiv a b) b ^^^ pmod a b) = 0 := xor_eq_zero.2 (h.symm.trans h1)
    rw [xor_xor_comm] at this
    exact xor_eq_zero.1 this
  have hq : q = pdiv a b := by
    apply Classical.byContradiction
    intro hne
    have hne' : q ^^^ pdiv a b ≠ 0 := fun e => hne (xor_eq_zero.1 e)
    have h4 := plen_pmul hne' hb
    rw [h3] at h4
    have h5 := plen_xor_le r (pmod a b)
    have := plen_pos hne'
    have : max (plen r) (plen (pmod a b)) < plen b := Nat.max_lt.2 ⟨hr, h2⟩
    omega
  refine ⟨hq, ?_⟩
  subst hq
  rw [Nat.xor_self, pmul_zero_left] at h3
  exact xor_eq_zero.1 h3.symm
theorem pmod_unique {a b r : Nat} (q : Nat) (hb : b ≠ 0) (h : a = pmul q b ^^^ r) (hr : plen r < plen b) : pmod a b = r := (div_unique hb h hr).2.symm
theorem pmod_lt {a b : Nat} (hb : b ≠ 0) : pmod a b < 2 ^ (plen b - 1) := plen_le.1 (by have := plen_pmod a hb; omega)
theorem pmod_small {a b : Nat} (hb : b ≠ 0) (h : plen a < plen b) : pmod a b = a := pmod_unique 0 hb (by rw [pmul_zero_left, Nat.zero_xor]) h
theorem pmod_zero {b : Nat} (hb : b ≠ 0) : pmod 0 b = 0 := pmod_small hb (by rw [plen_zero]; exact plen_pos hb)
theorem pmod_xor (a a' : Nat) {b : Nat} (hb : b ≠ 0) : pmod (a ^^^ a') b = pmod a b ^^^ pmod a' b := by
  refine pmod_unique (pdiv a b ^^^ pdiv a' b) hb ?_ ?_
  · rw [pmul_xor_left, xor_xor_comm, ← pdiv_pmod a hb, ← pdiv_pmod a' hb]
  · have := plen_xor_le (pmod a b) (pmod a' b)
    have : max (plen (pmod a b)) (plen (pmod a' b)) < plen b := Nat.max_lt.2 ⟨plen_pmod a hb, plen_pmod a' hb⟩
    omega
theorem pmod_mul_self (q : Nat) {b : Nat} (hb : b ≠ 0) : pmod (pmul q b) b = 0 := pmod_unique q hb (by rw [Nat.xor_zero]) (by rw [plen_zero]; exact plen_pos hb)
theorem pmod_mul_add (q r : Nat) {b : Nat} (hb : b ≠ 0) : pmod (pmul q b ^^^ r) b = pmod r b := by rw [pmod_xor _ _ hb, pmod_mul_self q hb, Nat.zero_xor]
theorem pmod_pmod (a : Nat) {b : Nat} (hb : b ≠ 0) : pmod (pmod a b) b = pmod a b := pmod_small hb (plen_pmod a hb)
theorem pmod_mul_left (a c : Nat) {b : Nat} (hb : b ≠ 0) : pmod (pmul (pmod a b) c) b = pmod (pmul a c) b := by
  have h : pmul a c = pmul (pmul (pdiv a b) c) b ^^^ pmul (pmod a b) c := by
    have h0 := pdiv_pmod a hb
    calc pmul a c = pmul (pmul (pdiv a b) b ^^^ pmod a b) c := by rw [← h0]
      _ = _ := by rw [pmul_xor_left, pmul_assoc, pmul_comm b c, ← pmul_assoc]
  rw [h, pmod_mul_add _ _ hb]
theorem pmod_mul_right (a c : Nat) {b : Nat} (hb : b ≠ 0) : pmod (pmul a (pmod c b)) b = pmod (pmul a c) b := by
  rw [pmul_comm, pmod_mul_left _ _ hb, pmul_comm]
theorem pmod_shl (a i : Nat) {b : Nat} (hb : b ≠ 0) : pmod (pmod a b <<< i) b = pmod (a <<< i) b := by
  rw [← pmul_shl_eq, pmod_mul_left _ _ hb, pmul_shl_eq]
theorem pmod_one (a : Nat) : pmod a 1 = 0 := by
  have := plen_pmod a (b := 1) (by decide)
  rw [show plen 1 = 1 from rfl] at this
  exact plen_eq_zero.1 (by omega)
/-- Multiplication by x, in one step. -/
theorem pmod_step {a b : Nat} (hb : b ≠ 0) (ha : plen a < plen b) :
    pmod (a <<< 1) b = if (a <<< 1).testBit (plen b - 1) then a <<< 1 ^^^ b else a <<< 1 := by
  have pb := plen_pos hb
  have hle : plen (a <<< 1) ≤ plen b := by have := plen_shl_le a 1; omega
  split
  · rename_i h
    have h1 := lt_plen_of_bit h
    refine pmod_unique 1 hb (by rw [pmul_one_left, Nat.xor_comm, xor_cancel]) ?_
    have hne : a <<< 1 ≠ 0 := by intro e; rw [e, plen_zero] at h1; omega
    have := plen_xor_lt hne (b := b) (by omega)
    omega
  · rename_i h
    refine pmod_small hb ?_
    apply Classical.byContradiction
    intro hn
    have e : plen (a <<< 1) = plen b := by omega
    have hne : a <<< 1 ≠ 0 := by intro e'; rw [e', plen_zero] at e; omega
    have := plen_top hne
    rw [e] at this
    exact h this

theorem shr_step (b k : Nat) : b >>> k = (b >>> (k + 1)) <<< 1 ^^^ (if b.testBit k then 1 else 0) := by
  have h := halves (b >>> k)
  rw [show b >>> k / 2 = b >>> (k + 1) by rw [Nat.shiftRight_succ]] at h
  have e : b >>> k % 2 = if b.testBit k then 1 else 0 := by
    rw [Nat.testBit_eq_decide_div_mod_eq, ← Nat.shiftRight_eq_div_pow]
    rcases Nat.mod_two_eq_zero_or_one (b >>> k) with h | h <;> simp [h]
  rw [e] at h
  exact h
/-- One step of a product modulo m, from the greatest coefficient of b on. -/
theorem horner {a m : Nat} (b k : Nat) (hm : m ≠ 0) (ha : plen a < plen m) :
    pmod (pmul a (b >>> k)) m = pmod (pmod (pmul a (b >>> (k + 1))) m <<< 1) m ^^^ (if b.testBit k then a else 0) := by
  rw [pmod_shl _ _ hm]
  conv => lhs; rw [shr_step b k]
  rw [pmul_xor_right, pmul_shl_right, pmod_xor _ _ hm]
  congr 1
  split
  · rw [pmul_one_right, pmod_small hm ha]
  · rw [pmul_zero_right, pmod_zero hm]

/-- The greatest common divisor by Euclid's way, with fuel. -/
def pgcdF : Nat → Nat → Nat → Nat
  | 0, a, _ => a
  | f + 1, a, b => if b = 0 then a else pgcdF f b (pmod a b)
def pgcd (a b : Nat) : Nat := pgcdF (plen b) a b
theorem pgcdF_more (f : Nat) : ∀ (g a b : Nat), plen b ≤ f → f ≤ g → pgcdF g a b = pgcdF f a b := by
  induction f with
  | zero =>
    intro g a b h _
    have hb : b = 0 := plen_eq_zero.1 (by omega)
    subst hb
    cases g with
    | zero => rfl
    | succ g => simp [pgcdF]
  | succ f ih =>
    intro g a b h hg
    obtain ⟨g, rfl⟩ : ∃ g', g = g' + 1 := ⟨g - 1, by omega⟩
    rw [pgcdF, pgcdF]
    split
    · rfl
    · rename_i hb
      exact ih g b (pmod a b) (by have := plen_pmod a hb; omega) (by omega)
theorem pgcd_zero (a : Nat) : pgcd a 0 = a := rfl
theorem pgcd_step (a : Nat) {b : Nat} (hb : b ≠ 0) : pgcd a b = pgcd b (pmod a b) := by
  have pb := plen_pos hb
  unfold pgcd
  obtain ⟨f, hf⟩ : ∃ f, plen b = f + 1 := ⟨plen b - 1, by omega⟩
  rw [hf, pgcdF, if_neg hb]
  exact pgcdF_more _ _ _ _ (Nat.le_refl _) (by have := plen_pmod a hb; omega)

/-- x to a power. -/
def xpow (n : Nat) : Nat := 1 <<< n
theorem xpow_add (m n : Nat) : pmul (xpow m) (xpow n) = xpow (m + n) := by
  unfold xpow; rw [pmul_shl_eq, ← Nat.shiftLeft_add]

end Gf
