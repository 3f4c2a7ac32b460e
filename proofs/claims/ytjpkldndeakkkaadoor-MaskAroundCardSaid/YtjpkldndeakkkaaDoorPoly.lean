/- The walks of poly.Div, times, MulMod, Power and Reverse. -/
import Derived.Test.YtjpkldndeakkkaaDoorIter
import Derived.Test.YtjpkldndeakkkaaDoorCrc
namespace Go.Proofs.YtjpkldndeakkkaaDoor
open Go Go.RowKit Go.Shelf

theorem bel_refl (w : World) : Below w.heap.size w w := Below.refl _ _
theorem bel_trans {n : Nat} {A B C : World} (h : Below n A B) (h' : Below B.heap.size B C) (hn : n ≤ B.heap.size) : Below n A C := h.trans (h'.mono hn)

theorem wrap_shl {b m : Nat} (h : b * 2 ^ m < 18446744073709551616) : IntKind.u64.wrap ((b : Int) * 2 ^ m) = ((b <<< m : Nat) : Int) := by
  rw [IntKind.wrap_u64, Nat.shiftLeft_eq, show ((b : Int) * 2 ^ m) = ((b * 2 ^ m : Nat) : Int) by simp]
  omega
theorem two_pow_lt {m : Nat} (h : m < 64) : 2 ^ m < 18446744073709551616 := show 2 ^ m < 2 ^ 64 from Nat.pow_lt_pow_right (by decide) h
theorem one_shl_lt {m : Nat} (h : m < 64) : 1 <<< m < 18446744073709551616 := by rw [Nat.one_shiftLeft]; exact two_pow_lt h
theorem plen_le64 {a : Nat} (h : a < 18446744073709551616) : Gf.plen a ≤ 64 := Gf.plen_le.2 h
theorem lt64_of_plen {a : Nat} (h : Gf.plen a ≤ 64) : a < 18446744073709551616 := (Gf.plen_le (n := 64)).1 h
theorem wrap_shl_one {m : Nat} (h : m < 64) : IntKind.u64.wrap ((2 : Int) ^ m) = ((1 <<< m : Nat) : Int) := by
  have := wrap_shl (b := 1) (m := m) (by rw [Nat.one_mul]; exact two_pow_lt h)
  simpa using this
theorem xor_shl {a b m : Nat} (ha : a < 18446744073709551616) (h : b <<< m < 18446744073709551616) :
    bits BinOp.xor IntKind.u64 (a : Int) (IntKind.u64.wrap ((b : Int) * 2 ^ m)) = ((a ^^^ b <<< m : Nat) : Int) := by
  rw [wrap_shl (by rw [← Nat.shiftLeft_eq]; exact h), u64_xor_nat _ _ ha h]
theorem or_xor {a b : Nat} (h : ∀ i, b.testBit i = true → a.testBit i = false) : a ||| b = a ^^^ b := by
  apply Nat.eq_of_testBit_eq
  intro i
  rw [Nat.testBit_or, Nat.testBit_xor]
  have := h i
  cases ha : a.testBit i <;> cases hb : b.testBit i <;> simp_all
theorem one_shl_bit (m i : Nat) : (1 <<< m).testBit i = decide (i = m) := by
  rw [Nat.one_shiftLeft, Nat.testBit_two_pow]
  simp [eq_comm]
theorem or_shl_one {q m : Nat} (hq : q < 18446744073709551616) (h : m < 64) (hb : q.testBit m = false) :
    bits BinOp.or IntKind.u64 (q : Int) (IntKind.u64.wrap ((2 : Int) ^ m)) = ((q ^^^ 1 <<< m : Nat) : Int) := by
  have hl := one_shl_lt h
  rw [wrap_shl_one h, u64_or_nat _ _ hq hl, or_xor]
  intro i hi
  rw [one_shl_bit] at hi
  have : i = m := by simpa using hi
  rw [this]; exact hb



theorem shl_one_u64 {a : Nat} (h : a < 9223372036854775808) : IntKind.u64.wrap ((a : Int) * 2) = ((a <<< 1 : Nat) : Int) := by
  have := wrap_shl (b := a) (m := 1) (by omega)
  simpa using this





end Go.Proofs.YtjpkldndeakkkaaDoor
