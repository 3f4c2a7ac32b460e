/- The register of the checksum as a polynomial: plain mathematics, no program. -/
import Derived.Test.YtidkjcflppbpdaaDoorGf
namespace Gf

/-- The generator, and what the register takes. -/
def G : Nat := 4374732215
def R : Nat := 3988292384
theorem plen_G : plen G = 33 := by decide +kernel
theorem G_ne : G ≠ 0 := by decide

def step (c : Nat) : Nat := if c % 2 = 1 then c / 2 ^^^ R else c / 2
def stepN : Nat → Nat → Nat
  | 0, c => c
  | n + 1, c => stepN n (step c)
def byteR (c x : Nat) : Nat := stepN 8 (c ^^^ x)
def run (c : Nat) (bs : List Nat) : Nat := bs.foldl byteR c

theorem step_lt {c : Nat} (h : c < 4294967296) : step c < 4294967296 := by
  have hd : c / 2 < 2 ^ 32 := by omega
  unfold step
  split
  · exact Nat.xor_lt_two_pow hd (by decide)
  · exact hd
theorem stepN_lt (n : Nat) : ∀ {c : Nat}, c < 4294967296 → stepN n c < 4294967296 := by
  induction n with
  | zero => exact fun h => h
  | succ n ih => exact fun h => ih (step_lt h)
theorem byteR_lt {c x : Nat} (h : c < 4294967296) (hx : x < 256) : byteR c x < 4294967296 :=
  stepN_lt 8 (Nat.xor_lt_two_pow (n := 32) h (by omega))
theorem run_lt {bs : List Nat} : ∀ {c : Nat}, c < 4294967296 → (∀ x ∈ bs, x < 256) → run c bs < 4294967296 := by
  induction bs with
  | nil => exact fun h _ => h
  | cons x bs ih => exact fun h hb => ih (byteR_lt h (hb x (by simp))) (fun y hy => hb y (by simp [hy]))
theorem run_append (c : Nat) (a b : List Nat) : run c (a ++ b) = run (run c a) b := List.foldl_append
theorem run_snoc (c : Nat) (a : List Nat) (x : Nat) : run c (a ++ [x]) = byteR (run c a) x := by rw [run_append]; rfl

theorem xor_half (a b : Nat) : (a ^^^ b) / 2 = a / 2 ^^^ b / 2 := Nat.xor_div_two_pow (n := 1)
theorem xor_mod2 (a b : Nat) : (a ^^^ b) % 2 = (a % 2 ^^^ b % 2) := Nat.xor_mod_two_pow (n := 1)
theorem step_xor (a b : Nat) : step (a ^^^ b) = step a ^^^ step b := by
  unfold step
  rw [xor_half, xor_mod2]
  rcases Nat.mod_two_eq_zero_or_one a with h | h <;> rcases Nat.mod_two_eq_zero_or_one b with h' | h' <;> rw [h, h'] <;> simp
  · rw [Nat.xor_assoc]
  · rw [xor_right_comm]
  · rw [xor_xor_comm, Nat.xor_self, Nat.xor_zero]
theorem stepN_xor (n : Nat) : ∀ a b : Nat, stepN n (a ^^^ b) = stepN n a ^^^ stepN n b := by
  induction n with
  | zero => exact fun _ _ => rfl
  | succ n ih => intro a b; rw [stepN, step_xor, ih]; rfl
theorem stepN_add (m n c : Nat) : stepN (m + n) c = stepN n (stepN m c) := by
  induction m generalizing c with
  | zero => rw [Nat.zero_add]; rfl
  | succ m ih => rw [show m + 1 + n = (m + n) + 1 by omega, stepN, ih, ← stepN]
theorem stepN_zero (n : Nat) : stepN n 0 = 0 := by
  induction n with
  | zero => rfl
  | succ n ih => rw [stepN]; exact ih
theorem step_double (d : Nat) : step (2 * d) = d := by unfold step; rw [if_neg (by omega)]; omega
theorem stepN_pow (n : Nat) : ∀ d, stepN n (2 ^ n * d) = d := by
  induction n with
  | zero => intro d; simp [stepN]
  | succ n ih =>
    intro d
    rw [stepN, show 2 ^ (n + 1) * d = 2 * (2 ^ n * d) by rw [Nat.pow_succ, Nat.mul_comm (2 ^ n) 2, Nat.mul_assoc], step_double, ih]
/-- A number is its upper part and its lower one. -/
theorem split_pow (n c : Nat) : c = (2 ^ n * (c / 2 ^ n)) ^^^ (c % 2 ^ n) := by
  apply Nat.eq_of_testBit_eq
  intro i
  rw [Nat.testBit_xor, Nat.testBit_mod_two_pow, Nat.testBit_two_pow_mul, Nat.testBit_div_two_pow]
  by_cases h : i < n
  · simp [h, show ¬ n ≤ i by omega]
  · simp [h, show n ≤ i by omega, show i - n + n = i by omega]
theorem stepN_split (n c : Nat) : stepN n c = c / 2 ^ n ^^^ stepN n (c % 2 ^ n) := by
  conv => lhs; rw [split_pow n c]
  rw [stepN_xor, stepN_pow]
theorem step_inj0 {c : Nat} (h : c < 4294967296) (h0 : step c = 0) : c = 0 := by
  unfold step at h0
  split at h0
  · have := xor_eq_zero.1 h0
    unfold R at this
    omega
  · omega
theorem stepN_inj0 (n : Nat) : ∀ {c : Nat}, c < 4294967296 → stepN n c = 0 → c = 0 := by
  induction n with
  | zero => exact fun _ h => h
  | succ n ih => exact fun h h0 => step_inj0 h (ih (step_lt h) h0)
theorem byteR_split {c x : Nat} (hx : x < 256) : byteR c x = c / 256 ^^^ stepN 8 (c % 256 ^^^ x) := by
  unfold byteR
  rw [stepN_split]
  have h1 : (c ^^^ x) / 2 ^ 8 = c / 256 := by
    rw [Nat.xor_div_two_pow, show x / 2 ^ 8 = 0 by omega, Nat.xor_zero]
  have h2 : (c ^^^ x) % 2 ^ 8 = c % 256 ^^^ x := by
    rw [Nat.xor_mod_two_pow, show x % 2 ^ 8 = x by omega]
  rw [h1, h2]
theorem byteR_xor (a b x y : Nat) : byteR (a ^^^ b) (x ^^^ y) = byteR a x ^^^ byteR b y := by
  unfold byteR; rw [xor_xor_comm, stepN_xor]

/-- The lower bits in the opposite order. -/
def rev (p : Nat) : Nat → Nat
  | 0 => 0
  | i + 1 => 2 * rev p i + p / 2 ^ i % 2
theorem rev_lt (p n : Nat) : rev p n < 2 ^ n := by
  induction n with
  | zero => simp [rev]
  | succ n ih => rw [rev, Nat.pow_succ]; omega
theorem rev_bit (p n j : Nat) : (rev p n).testBit j = (decide (j < n) && p.testBit (n - 1 - j)) := by
  induction n generalizing j with
  | zero => simp [rev]
  | succ n ih =>
    rw [rev]
    cases j with
    | zero =>
      rw [Nat.testBit_zero, Nat.testBit_eq_decide_div_mod_eq]
      simp only [Nat.add_sub_cancel, Nat.sub_zero, Nat.zero_lt_succ, decide_true, Bool.true_and]
      congr 1
      apply propext
      omega
    | succ j =>
      rw [Nat.testBit_succ, show (2 * rev p n + p / 2 ^ n % 2) / 2 = rev p n by omega, ih]
      rw [show n + 1 - 1 - (j + 1) = n - 1 - j by omega]
      congr 1
      simp
theorem rev_rev {p n : Nat} (h : p < 2 ^ n) : rev (rev p n) n = p := by
  apply Nat.eq_of_testBit_eq
  intro j
  rw [rev_bit, rev_bit]
  by_cases hj : j < n
  · simp [hj, show n - 1 - j < n by omega, show n - 1 - (n - 1 - j) = j by omega]
  · simp [hj, bit_ge h (show n ≤ j by omega)]
theorem rev_xor (a b n : Nat) : rev (a ^^^ b) n = rev a n ^^^ rev b n := by
  apply Nat.eq_of_testBit_eq
  intro j
  rw [Nat.testBit_xor, rev_bit, rev_bit, rev_bit, Nat.testBit_xor]
  cases decide (j < n) <;> simp
theorem rev_zero (n : Nat) : rev 0 n = 0 := by
  apply Nat.eq_of_testBit_eq
  intro j
  rw [rev_bit]; simp
theorem rev_inj {a b n : Nat} (ha : a < 2 ^ n) (hb : b < 2 ^ n) (h : rev a n = rev b n) : a = b := by
  rw [← rev_rev ha, h, rev_rev hb]

theorem rev_more {p k : Nat} (h : p < 2 ^ k) (j : Nat) : rev p (k + j) = 2 ^ j * rev p k := by
  induction j with
  | zero => simp
  | succ j ih =>
    rw [← Nat.add_assoc, rev, ih, Nat.div_eq_of_lt (Nat.lt_of_lt_of_le h (Nat.pow_le_pow_right (by decide) (by omega)))]
    rw [Nat.pow_succ, Nat.mul_comm (2 ^ j) 2, Nat.mul_assoc]; simp
theorem rev_up {p k n : Nat} (h : p < 2 ^ k) (hk : k ≤ n) : rev p k * 2 ^ (n - k) = rev p n := by
  have := rev_more h (n - k)
  rw [show k + (n - k) = n by omega] at this
  rw [this, Nat.mul_comm]
theorem rev_R : rev R 32 = 79764919 := by decide +kernel
theorem rev_half {c : Nat} (h : c < 4294967296) : rev (c / 2) 32 = if c % 2 = 1 then rev c 32 <<< 1 ^^^ 4294967296 else rev c 32 <<< 1 := by
  have hb0 : c.testBit 0 = decide (c % 2 = 1) := Nat.testBit_zero c
  have key : ∀ j, (rev (c / 2) 32).testBit j = ((rev c 32 <<< 1).testBit j && decide (j ≠ 32)) := by
    intro j
    rw [rev_bit, Nat.testBit_shiftLeft, rev_bit]
    by_cases hj : j < 32
    · rw [← Nat.testBit_succ c]
      cases j with
      | zero =>
        have : c.testBit 32 = false := bit_ge (n := 32) h (by omega)
        simp [this]
      | succ j => simp [hj, show j < 32 by omega, show 30 - j + 1 = 31 - j by omega, show j ≠ 31 by omega]
    · by_cases e : j = 32
      · subst e; simp
      · simp [hj, show ¬ (j - 1 < 32) by omega]
  apply Nat.eq_of_testBit_eq
  intro j
  rw [key]
  have top : (rev c 32 <<< 1).testBit 32 = decide (c % 2 = 1) := by
    rw [Nat.testBit_shiftLeft, rev_bit]; simp [hb0]
  have two : (4294967296 : Nat).testBit j = decide (j = 32) := by
    rw [show (4294967296 : Nat) = 2 ^ 32 from rfl, Nat.testBit_two_pow]
    simp [eq_comm]
  split
  · rename_i h1
    rw [Nat.testBit_xor, two]
    by_cases e : j = 32
    · subst e; simp [top, h1]
    · simp [e]
  · rename_i h1
    by_cases e : j = 32
    · subst e; simp [top, h1]
    · simp [e]
theorem rev_step {c : Nat} (h : c < 4294967296) : rev (step c) 32 = pmod (rev c 32 <<< 1) G := by
  have hl : plen (rev c 32) < plen G := by rw [plen_G]; have := plen_le.2 (rev_lt c 32); omega
  rw [pmod_step G_ne hl, plen_G]
  have top : (rev c 32 <<< 1).testBit (33 - 1) = decide (c % 2 = 1) := by
    rw [Nat.testBit_shiftLeft, rev_bit]; simp
  rw [top]
  unfold step
  by_cases h1 : c % 2 = 1
  · rw [if_pos h1, rev_xor, rev_half h, if_pos h1, rev_R, Nat.xor_assoc]
    simp [h1, G]
  · rw [if_neg h1, rev_half h, if_neg h1]
    simp [h1]
theorem rev_stepN (n : Nat) : ∀ {c : Nat}, c < 4294967296 → rev (stepN n c) 32 = pmod (rev c 32 <<< n) G := by
  induction n with
  | zero =>
    intro c h
    rw [stepN, Nat.shiftLeft_zero, pmod_small G_ne]
    rw [plen_G]; have := plen_le.2 (rev_lt c 32); omega
  | succ n ih =>
    intro c h
    rw [stepN, ih (step_lt h), rev_step h, pmod_shl _ _ G_ne, ← Nat.shiftLeft_add, Nat.add_comm 1 n]
/-- What Shift reckons. -/
theorem shift_eq {c : Nat} (h : c < 4294967296) (n : Nat) :
    rev (pmod (pmul (rev c 32) (pmod (1 <<< n) G)) G) 32 = stepN n c := by
  rw [pmod_mul_right _ _ G_ne, pmul_shl_eq, ← rev_stepN n h, rev_rev (stepN_lt n h)]

/-- The polynomial of bytes. -/
def bpoly (bs : List Nat) : Nat := bs.foldl (fun p x => p <<< 8 ^^^ rev x 8) 0
theorem bpoly_snoc (bs : List Nat) (x : Nat) : bpoly (bs ++ [x]) = bpoly bs <<< 8 ^^^ rev x 8 := by simp [bpoly]
theorem snoc_ind {α : Type} {P : List α → Prop} (h0 : P []) (hs : ∀ l x, P l → P (l ++ [x])) : ∀ l, P l := by
  intro l
  have : ∀ n (l : List α), l.length = n → P l := by
    intro n
    induction n with
    | zero => intro l h; rw [List.length_eq_zero_iff.1 h]; exact h0
    | succ n ih =>
      intro l h
      have hne : l ≠ [] := by intro e; subst e; simp at h
      rw [← List.dropLast_concat_getLast hne]
      exact hs _ _ (ih _ (by simp [h]))
  exact this _ l rfl
theorem bpoly_lt (bs : List Nat) : bpoly bs < 2 ^ (8 * bs.length) := by
  refine snoc_ind (P := fun bs => bpoly bs < 2 ^ (8 * bs.length)) ?_ ?_ bs
  · simp [bpoly]
  · intro bs x ih
    rw [bpoly_snoc, List.length_append, List.length_singleton]
    refine Nat.xor_lt_two_pow ?_ (Nat.lt_of_lt_of_le (rev_lt x 8) (Nat.pow_le_pow_right (by decide) (by omega)))
    rw [Nat.shiftLeft_eq, show 8 * (bs.length + 1) = 8 * bs.length + 8 by omega, Nat.pow_add]
    exact Nat.mul_lt_mul_of_pos_right ih (by decide)
/-- The bits of the polynomial of bytes are theirs, from the last one on. -/
theorem bpoly_bit (bs : List Nat) : ∀ k, k < 8 * bs.length → (bpoly bs).testBit (8 * bs.length - 1 - k) = (bs.getD (k / 8) 0).testBit (k % 8) := by
  refine snoc_ind (P := fun bs => ∀ k, k < 8 * bs.length → (bpoly bs).testBit (8 * bs.length - 1 - k) = (bs.getD (k / 8) 0).testBit (k % 8)) ?_ ?_ bs
  · intro k h; simp at h
  · intro bs x ih k h
    rw [List.length_append, List.length_singleton] at h ⊢
    rw [bpoly_snoc, Nat.testBit_xor, Nat.testBit_shiftLeft, rev_bit]
    by_cases hk : k < 8 * bs.length
    · have h1 := ih k hk
      rw [show 8 * (bs.length + 1) - 1 - k - 8 = 8 * bs.length - 1 - k by omega, h1]
      have h2 : (bs ++ [x]).getD (k / 8) 0 = bs.getD (k / 8) 0 := by
        simp only [List.getD_eq_getElem?_getD]
        rw [List.getElem?_append_left (by omega)]
      rw [h2]
      simp [show 8 ≤ 8 * (bs.length + 1) - 1 - k by omega, show ¬ 8 * (bs.length + 1) - 1 - k < 8 by omega]
    · have h2 : (bs ++ [x]).getD (k / 8) 0 = x := by
        simp only [List.getD_eq_getElem?_getD]
        rw [List.getElem?_append_right (by omega), show k / 8 - bs.length = 0 by omega]
        simp
      rw [h2]
      simp [show ¬ 8 ≤ 8 * (bs.length + 1) - 1 - k by omega, show 8 * (bs.length + 1) - 1 - k < 8 by omega,
        show 7 - (8 * (bs.length + 1) - 1 - k) = k % 8 by omega]
theorem rev32_byte {x : Nat} (hx : x < 256) : rev x 32 = rev x 8 <<< 24 := by
  apply Nat.eq_of_testBit_eq
  intro j
  rw [Nat.testBit_shiftLeft, rev_bit, rev_bit]
  by_cases h : j < 32
  · by_cases h' : 24 ≤ j
    · simp [h, h', show j - 24 < 8 by omega, show 31 - j = 7 - (j - 24) by omega]
    · have : x.testBit (31 - j) = false := bit_ge (n := 8) (by omega) (by omega)
      simp [h', this]
  · simp [h, show ¬ j - 24 < 8 by omega]
/-- The register after bytes, from 0 on, is the remainder of their polynomial times x^32. -/
theorem run_poly (bs : List Nat) : (∀ x ∈ bs, x < 256) → rev (run 0 bs) 32 = pmod (bpoly bs <<< 32) G := by
  refine snoc_ind (P := fun bs => (∀ x ∈ bs, x < 256) → rev (run 0 bs) 32 = pmod (bpoly bs <<< 32) G) ?_ ?_ bs
  · intro _; simp [run, bpoly, rev_zero, pmod_zero G_ne]
  · intro bs x ih h
    have hx : x < 256 := h x (by simp)
    have hb : ∀ y ∈ bs, y < 256 := fun y hy => h y (by simp [hy])
    have hr : run 0 bs < 4294967296 := run_lt (by decide) hb
    rw [run_snoc, bpoly_snoc]
    unfold byteR
    rw [rev_stepN 8 (Nat.xor_lt_two_pow (n := 32) hr (by omega)), rev_xor, ih hb, rev32_byte hx, Nat.shiftLeft_xor_distrib, pmod_xor _ _ G_ne,
      pmod_shl _ _ G_ne, Nat.shiftLeft_xor_distrib, pmod_xor _ _ G_ne, ← Nat.shiftLeft_add, ← Nat.shiftLeft_add, ← Nat.shiftLeft_add]
/-- The linear part by the definition. -/
def lin (bs : List Nat) : Nat := rev (pmod (bpoly bs <<< 32) G) 32
theorem lin_eq (bs : List Nat) (h : ∀ x ∈ bs, x < 256) : lin bs = run 0 bs := by
  unfold lin; rw [← run_poly bs h]; exact rev_rev (run_lt (by decide) h)
theorem lin_one {x : Nat} (hx : x < 256) : lin [x] = stepN 8 x := by
  rw [lin_eq _ (by simpa using hx)]; simp [run, byteR]
/-- One byte by the definition. -/
theorem byteR_lin {c x : Nat} (hx : x < 256) : byteR c x = c / 256 ^^^ lin [c % 256 ^^^ x] := by
  have : c % 256 ^^^ x < 2 ^ 8 := Nat.xor_lt_two_pow (by omega) (by omega)
  rw [byteR_split hx, lin_one (by omega)]
theorem run_xor : ∀ (a b : List Nat) (c d : Nat), a.length = b.length → run (c ^^^ d) (List.zipWith (· ^^^ ·) a b) = run c a ^^^ run d b := by
  intro a
  induction a with
  | nil => intro b c d h; cases b with
    | nil => rfl
    | cons _ _ => simp at h
  | cons x a ih => intro b c d h; cases b with
    | nil => simp at h
    | cons y b =>
      simp only [List.zipWith_cons_cons, run, List.foldl_cons]
      rw [byteR_xor]
      exact ih b _ _ (by simpa using h)
theorem run_zeros (c n : Nat) : run c (List.replicate n 0) = stepN (8 * n) c := by
  induction n generalizing c with
  | zero => rfl
  | succ n ih =>
    rw [List.replicate_succ, show 8 * (n + 1) = 8 + 8 * n by omega, stepN_add, ← ih]
    simp [run, byteR]
theorem run_zeros_left (n : Nat) (a : List Nat) : run 0 (List.replicate n 0 ++ a) = run 0 a := by
  rw [run_append, run_zeros, stepN_zero]
/-- What a register brings to the end. -/
theorem run_start (c : Nat) (a : List Nat) : run c a = stepN (8 * a.length) c ^^^ run 0 a := by
  have h := run_xor (List.replicate a.length 0) a c 0 (by simp)
  rw [Nat.xor_zero, run_zeros] at h
  rw [← h]
  congr 1
  apply List.ext_getElem?
  intro i
  rw [List.getElem?_zipWith]
  by_cases hi : i < a.length <;> simp [hi]
/-- Inverted. -/
def inv (c : Nat) : Nat := 4294967295 - c
theorem inv_eq {c : Nat} (h : c < 4294967296) : inv c = c ^^^ 4294967295 := by
  unfold inv
  apply Nat.eq_of_testBit_eq
  intro i
  rw [show 4294967295 - c = 2 ^ 32 - (c + 1) by omega, Nat.testBit_two_pow_sub_succ (n := 32) h, Nat.testBit_xor, show (4294967295 : Nat) = 2 ^ 32 - 1 from rfl, Nat.testBit_two_pow_sub_one]
  by_cases hi : i < 32
  · simp [hi]
  · simp [hi, bit_ge (n := 32) h (show 32 ≤ i by omega)]
theorem inv_lt (c : Nat) : inv c < 4294967296 := by unfold inv; omega
theorem inv_inv {c : Nat} (h : c < 4294967296) : inv (inv c) = c := by unfold inv; omega
/-- The checksum. -/
def update (c : Nat) (bs : List Nat) : Nat := inv (run (inv c) bs)
def sum (bs : List Nat) : Nat := update 0 bs
theorem update_lt (c : Nat) (bs : List Nat) : update c bs < 4294967296 := inv_lt _
/-- The four bytes of a number. -/
def four (c : Nat) : List Nat := [c % 256, c / 256 % 256, c / 65536 % 256, c / 16777216 % 256]
def sealB (bs : List Nat) : List Nat := bs ++ four (sum bs)
def sealed (bs : List Nat) : Bool := decide (4 ≤ bs.length) && (sealB (bs.take (bs.length - 4)) == bs)
/-- One bit of bytes: m bytes after its own, j its place in that byte. -/
theorem bit_val (m j : Nat) (hj : j < 8) : stepN (8 * m) (stepN 8 (2 ^ j)) = stepN (8 * m + 7 - j) R := by
  rw [← stepN_add]
  have h1 : stepN j (2 ^ j) = 1 := by have := stepN_pow j 1; rwa [Nat.mul_one] at this
  rw [show 8 + 8 * m = j + (1 + (8 * m + 7 - j)) by omega, stepN_add, h1, stepN_add]
  rfl
/-- The table of halves is four steps. -/
def half (i : Nat) : Nat := stepN 4 i
theorem half_step (c : Nat) : stepN 4 c = c / 16 ^^^ half (c % 16) := stepN_split 4 c
theorem byteR_halves (c x : Nat) : byteR c x = stepN 4 (stepN 4 (c ^^^ x)) := by unfold byteR; rw [← stepN_add]
end Gf
