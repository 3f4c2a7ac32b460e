/- The walk of the law PolyWrong. -/
import Derived.Test.YtidkjcflppbpdaaDoorAwakeC
import Derived.Test.YtidkjcflppbpdaaDoorOwnB
import Derived.Test.YtidkjcflppbpdaaDoorStr
import Derived.WalkLawsBesides
namespace Go.Proofs.YtidkjcflppbpdaaDoor
open Go Go.RowKit Go.Shelf

theorem order_arg (m : Nat) (hm : m < 18446744073709551616) (h : Gf.plen m < 2 ∨ 21 < Gf.plen m) (w : World) :
    Calls Tryd.prog 23 #[.int .u64 m] w fun e w' => e = .returned (.tuple #[.int .i64 0, .int .i64 2]) ∧ Below w.heap.size w w' := by
  refine (order_any m hm w).mono ?_
  rintro e w' ⟨rfl, hb⟩
  refine ⟨?_, hb⟩
  unfold ordV ordE
  rw [if_pos (by omega), if_pos h]
  rfl
theorem order_even (m : Nat) (hm : m < 1048576) (h0 : m ≠ 0) (he : m % 2 = 0) (w : World) :
    Calls Tryd.prog 23 #[.int .u64 m] w fun e w' => e = .returned (.tuple #[.int .i64 0, .int .i64 6]) ∧ Below w.heap.size w w' := by
  refine (order_any m (by omega) w).mono ?_
  rintro e w' ⟨rfl, hb⟩
  refine ⟨?_, hb⟩
  have h1 : Gf.plen m ≤ 20 := Gf.plen_le.2 hm
  have h2 : 2 ≤ Gf.plen m := by
    rcases Nat.lt_or_ge (Gf.plen m) 2 with h | h
    · have := Gf.plen_le.1 (show Gf.plen m ≤ 1 by omega)
      omega
    · exact h
  unfold ordV ordE
  rw [if_pos (by omega), if_neg (by omega), if_pos he]
  rfl
theorem plen_or {a k : Nat} : k + 1 ≤ Gf.plen (a ||| 2 ^ k) := by
  have h : (a ||| 2 ^ k).testBit k = true := by rw [Nat.testBit_or, Nat.testBit_two_pow_self]; simp
  exact Gf.lt_plen_of_bit h
theorem or_lt64 {a k : Nat} (ha : a < 18446744073709551616) (hk : k < 64) : a ||| 2 ^ k < 18446744073709551616 := Nat.or_lt_two_pow (n := 64) ha (two_pow_lt hk)
theorem mul_long (a b : Nat) (ha : a < 18446744073709551616) (hb : b < 18446744073709551616) (h : 65 < Gf.plen a + Gf.plen b) (h1 : a ≠ 0) (h2 : b ≠ 0) (w : World) :
    Calls Tryd.prog 16 #[.int .u64 a, .int .u64 b] w fun e w' => e = .returned (.tuple #[.int .u64 0, .int .i64 3]) ∧ Below w.heap.size w w' := by
  refine (mul_any a b ha hb w).mono ?_
  rintro e w' ⟨rfl, hb⟩
  refine ⟨?_, hb⟩
  unfold mulV mulE
  have hn : ¬ (a = 0 ∨ b = 0) := fun h => h.elim h1 h2
  rw [if_neg hn, if_neg hn, if_pos h, if_pos h]
  rfl
theorem or_u64 (a k : Nat) (ha : a < 18446744073709551616) (hk : k < 64) (z : Int) (hz : z = ((2 ^ k : Nat) : Int)) : bits BinOp.or IntKind.u64 (a : Int) z = ((a ||| 2 ^ k : Nat) : Int) := by
  subst hz
  exact u64_or_nat a (2 ^ k) ha (two_pow_lt hk)

set_option maxRecDepth 100000 in
set_option maxHeartbeats 8000000 in
theorem polyWrong_all (a : Nat) (ha : a < 18446744073709551616) (b : Nat) (hb : b < 18446744073709551616) (n : Int) (hn : -9223372036854775808 ≤ n ∧ n ≤ 9223372036854775807) (w : World) :
    Calls Tryd.prog 9 #[.int .u64 a, .int .u64 b, .int .i64 n] w fun e w' => e = .returned (.bool true) ∧ Below w.heap.size w w' := by
  go_enter Tryd.func9, Tryd.ntmps9
  go_wp2_with fail
  refine (div_zero a _).mono ?_
  rintro e w1 ⟨rfl, rfl⟩
  go_wp2_with fail
  refine (mulmod_zero a b _).mono ?_
  rintro e w1 ⟨rfl, rfl⟩
  go_wp2_with fail
  refine (power_zero _ _).mono ?_
  rintro e w2 ⟨rfl, hb2⟩
  have hB2 := hb2
  clear hb2
  go_wp2_with fail
  have hmx : max (a : Int) 1 = ((max a 1 : Nat) : Int) := by omega
  rw [hmx]
  refine (power_neg _ (max a 1) (by omega) (by omega) _).mono ?_
  rintro e w3 ⟨rfl, hb3⟩
  have hB3 := hB2.trans (hb3.mono hB2.size)
  clear hB2 hb3
  have ho := or_u64 a 21 ha (by decide) 2097152 (by decide)
  have hol : a ||| 2 ^ 21 < 18446744073709551616 := or_lt64 ha (by decide)
  have hop : 21 + 1 ≤ Gf.plen (a ||| 2 ^ 21) := plen_or
  obtain ⟨A2, HA2⟩ := nm (a ||| 2 ^ 21)
  rw [HA2.out] at ho hol hop
  have hop' : 21 < Gf.plen A2 := by omega
  clear hop
  have hL := reads_lit .u64 w3 [0, 1, A2, 9223372036854775808] 22 (0, 0) #[.int .u64 0, .int .u64 1, .int .u64 A2, .int .u64 9223372036854775808] 4 rfl rfl (by decide)
  have hBa := hB3.trans ((bel_alloc w3 (.cells #[.int .u64 0, .int .u64 1, .int .u64 A2, .int .u64 9223372036854775808] 22)).mono hB3.size)
  have HL := Lib.hid hL
  clear hL
  go_wp2_with fail
  obtain ⟨wc, HWC⟩ := nm (w3.alloc (.cells #[.int .u64 0, .int .u64 1, .int .u64 A2, .int .u64 9223372036854775808] 22))
  rw [HWC.out] at hBa HL ⊢
  go_loopw [87] (fun vi wr => ∃ k : Nat, k ≤ 4 ∧ vi = .int .i64 (k : Int) ∧ Below wc.heap.size wc wr) (fun vi _ => 4 - (intOf vi).toNat)
  case atStart => exact ⟨0, Nat.zero_le _, rfl, Below.refl _ _⟩
  case round =>
    obtain ⟨k, hk, rfl, hBr⟩ := hrel
    by_cases hlt : k < 4
    · obtain ⟨ya, cy, e1, _, _, hcell⟩ := HL.out.keep hBr (Nat.le_refl _)
      cases e1
      obtain ⟨yb, yo, e2, hc⟩ := hcell.resolve_left (by decide)
      cases e2
      have ck := hc k hlt
      rw [Nat.zero_add] at ck
      have hyy : Gf.plen (([0, 1, A2, 9223372036854775808] : List Nat)[k]?.getD 0) < 2 ∨ 21 < Gf.plen (([0, 1, A2, 9223372036854775808] : List Nat)[k]?.getD 0) := by
        match k, hlt with
        | 0, _ => exact .inl (show Gf.plen 0 < 2 by decide)
        | 1, _ => exact .inl (show Gf.plen 1 < 2 by decide)
        | 2, _ => exact .inr hop'
        | 3, _ => exact .inr (show 21 < Gf.plen 9223372036854775808 from Nat.lt_trans (by decide) (Gf.lt_plen_of_bit (p := 9223372036854775808) (i := 63) (by decide)))
      have hyb : ([0, 1, A2, 9223372036854775808] : List Nat)[k]?.getD 0 < 18446744073709551616 := by
        match k, hlt with
        | 0, _ => exact (show 0 < 18446744073709551616 by decide)
        | 1, _ => exact (show 1 < 18446744073709551616 by decide)
        | 2, _ => exact hol
        | 3, _ => exact (show 9223372036854775808 < 18446744073709551616 by decide)
      obtain ⟨y, HYY⟩ := nm (([0, 1, A2, 9223372036854775808] : List Nat)[k]?.getD 0)
      rw [HYY.out] at ck hyy hyb
      have HYB := Lib.hid hyy
      clear hc hcell hyy
      go_wp2_with fail
      refine (order_arg y hyb HYB.out _).mono ?_
      rintro e w4 ⟨rfl, hb4⟩
      have hB4 := hBr.trans (hb4.mono hBr.size)
      clear hb4
      go_wp2_with fail
      go_roundw
      case rel => exact ⟨k + 1, by omega, by go_num, hB4⟩
      case measure => simp [intOf]; omega
    · obtain rfl : k = 4 := by omega
      have hBe := hBa.trans (hBr.mono hBa.size)
      clear hBa hBr hB3
      rw [show ((4 : Nat) : Int) = 4 from rfl]
      go_wp2_with fail
      have he : (2 : Int) + (a : Int) % 262144 * 2 = ((2 + a % 262144 * 2 : Nat) : Int) := by omega
      rw [he]
      refine (order_even (2 + a % 262144 * 2) (by omega) (by omega) (by omega) _).mono ?_
      rintro e w5 ⟨rfl, hb5⟩
      have hB5 := hBe.trans (hb5.mono hBe.size)
      clear hBe hb5 he ho
      have h40 := or_u64 a 40 ha (by decide) 1099511627776 (by decide)
      have h24 := or_u64 b 24 hb (by decide) 16777216 (by decide)
      have l40 : a ||| 2 ^ 40 < 18446744073709551616 := or_lt64 ha (by decide)
      have l24 : b ||| 2 ^ 24 < 18446744073709551616 := or_lt64 hb (by decide)
      have p40 : 40 + 1 ≤ Gf.plen (a ||| 2 ^ 40) := plen_or
      have p24 : 24 + 1 ≤ Gf.plen (b ||| 2 ^ 24) := plen_or
      obtain ⟨P, HP⟩ := nm (a ||| 2 ^ 40)
      obtain ⟨Q, HQ⟩ := nm (b ||| 2 ^ 24)
      rw [HP.out] at h40 l40 p40
      rw [HQ.out] at h24 l24 p24
      have nP : P ≠ 0 := fun h => by rw [h, Gf.plen_zero] at p40; omega
      have nQ : Q ≠ 0 := fun h => by rw [h, Gf.plen_zero] at p24; omega
      have c1 := mul_long P Q l40 l24 (by omega) nP nQ
      have C1 := Lib.hid c1
      clear c1
      go_wp2_with fail
      refine (C1.out _).mono ?_
      rintro e w6 ⟨rfl, hb6⟩
      have hB6 := hB5.trans (hb6.mono hB5.size)
      clear hB5 hb6
      go_wp2_with fail
      refine (reverse_err a (min n (-1)) (by omega) _).mono ?_
      rintro e w7 ⟨rfl, rfl⟩
      go_wp2_with fail
      refine (reverse_err a (max n 65) (by omega) _).mono ?_
      rintro e w7 ⟨rfl, rfl⟩
      go_wp2_with fail
      refine (awake_any _).mono ?_
      rintro e w8 ⟨rfl, hb8⟩
      have hB8 := hB6.trans (hb8.mono hB6.size)
      clear hB6 hb8
      go_wp2_with fail
      go_ret
      exact ⟨rfl, hB8⟩
end Go.Proofs.YtidkjcflppbpdaaDoor
