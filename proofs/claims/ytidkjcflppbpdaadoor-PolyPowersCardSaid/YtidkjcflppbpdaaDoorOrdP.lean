/- The order of x divides what brings x back to 1: plain mathematics. -/
import Derived.Test.YtidkjcflppbpdaaDoorOrd
import Derived.Test.YtidkjcflppbpdaaDoorIrr
namespace Gf
theorem xm_red {s : Nat} (hs : s ≠ 0) {o : Nat} (h1 : xm s o = 1) (r : Nat) : ∀ k, xm s (o * k + r) = xm s r
  | 0 => by rw [Nat.mul_zero, Nat.zero_add]
  | k + 1 => by
    have e : o * (k + 1) + r = o + (o * k + r) := by rw [Nat.mul_succ]; omega
    rw [e]
    unfold xm at h1
    show pmod (xpow (o + (o * k + r))) s = _
    rw [← xpow_add, ← pmod_mul_left _ _ hs, h1, pmul_one_left]
    exact xm_red hs h1 r k
theorem ord_dvd {s N : Nat} (h2 : 2 ≤ plen s) (ho : s % 2 = 1) (h : xm s N = 1) : N % ord s = 0 := by
  have hs : s ≠ 0 := fun e => by rw [e, plen_zero] at h2; omega
  obtain ⟨a1, a2, _, a4⟩ := ord_ok h2 ho
  have e := xm_red hs a1 (N % ord s) (N / ord s)
  rw [Nat.div_add_mod, h] at e
  refine Classical.byContradiction fun hn => ?_
  exact a4 (N % ord s) (by omega) (Nat.mod_lt _ (by omega)) e.symm
theorem x_unit {s : Nat} (h2 : 2 ≤ plen s) (ho : s % 2 = 1) : pmod 2 s ≠ 0 := fun hx => by
  have hs : s ≠ 0 := fun e => by rw [e, plen_zero] at h2; omega
  obtain ⟨a1, a2, _, _⟩ := ord_ok h2 ho
  have e : xpow (ord s) = pmul (xpow (ord s - 1)) 2 := by
    rw [show (2 : Nat) = xpow 1 from rfl, xpow_add]
    congr 1
    omega
  unfold xm at a1
  rw [e, ← pmod_mul_right _ _ hs, hx, pmul_zero_right, pmod_zero hs] at a1
  cases a1
theorem ord_irr {s : Nat} (h : Irr s) (ho : s % 2 = 1) : (2 ^ (plen s - 1) - 1) % ord s = 0 :=
  ord_dvd h.1 ho (h.fermat (x_unit h.1 ho))
theorem ord_part {s k : Nat} (h2 : 2 ≤ plen s) (ho : s % 2 = 1) (hk : 2 ≤ k) (hd : ord s % k = 0) : xm s (ord s / k) ≠ 1 := by
  obtain ⟨_, a2, _, a4⟩ := ord_ok h2 ho
  have e := Nat.div_add_mod (ord s) k
  rw [hd, Nat.add_zero] at e
  have hp : 1 ≤ ord s / k := Nat.pos_of_ne_zero fun e' => by rw [e', Nat.mul_zero] at e; omega
  refine a4 _ hp ?_
  exact Nat.div_lt_self (by omega) (by omega)
end Gf
