/- The walk of the laws PolyTells, PolyOrders. -/
import Derived.Test.YtidkjcflppbpdaaDoorRefQ
import Derived.Test.YtidkjcflppbpdaaDoorLawRing
namespace Go.Proofs.YtidkjcflppbpdaaDoor
open Go Go.RowKit Go.Shelf

theorem pair_div (a b : Nat) (ha : a < 18446744073709551616) (hb : b < 18446744073709551616) : ∃ (q r : Nat) (E : Int),
    (∀ w : World, Calls Tryd.prog 15 #[.int .u64 a, .int .u64 b] w fun e w' => e = .returned (.tuple #[.int .u64 q, .int .u64 r, .int .i64 E]) ∧ Below w.heap.size w w') ∧
    (∀ w : World, Calls Tryd.prog 34 #[.int .u64 a, .int .u64 b] w fun e w' => e = .returned (.tuple #[.int .u64 q, .int .u64 r, .int .i64 E]) ∧ Below w.heap.size w w') := by
  by_cases h0 : b = 0
  · subst h0
    exact ⟨0, 0, 2, fun w => (div_zero a w).mono fun e w' ⟨h1, h2⟩ => ⟨h1, h2 ▸ bel_refl _⟩, fun w => (rdiv_zero a w).mono fun e w' ⟨h1, h2⟩ => ⟨h1, h2 ▸ bel_refl _⟩⟩
  · exact ⟨_, _, 0, div_any a b ha hb h0, rdiv_any a b ha hb h0⟩
theorem pair_mulmod (a b m : Nat) (ha : a < 18446744073709551616) (hb : b < 18446744073709551616) (hm : m < 18446744073709551616) : ∃ (x : Nat) (E : Int),
    (∀ w : World, Calls Tryd.prog 20 #[.int .u64 a, .int .u64 b, .int .u64 m] w fun e w' => e = .returned (.tuple #[.int .u64 x, .int .i64 E]) ∧ Below w.heap.size w w') ∧
    (∀ w : World, Calls Tryd.prog 37 #[.int .u64 a, .int .u64 b, .int .u64 m] w fun e w' => e = .returned (.tuple #[.int .u64 x, .int .i64 E]) ∧ Below w.heap.size w w') := by
  by_cases h0 : m = 0
  · subst h0
    exact ⟨0, 2, fun w => (mulmod_zero a b w).mono fun e w' ⟨h1, h2⟩ => ⟨h1, h2 ▸ bel_refl _⟩, fun w => (rmulmod_zero a b w).mono fun e w' ⟨h1, h2⟩ => ⟨h1, h2 ▸ bel_refl _⟩⟩
  · exact ⟨_, 0, mulmod_any a b m ha hb hm h0, rmulmod_any a b m ha hb hm h0⟩
theorem pair_power (n : Int) (m : Nat) (h1 : n ≤ 9223372036854775807) (hm : m < 18446744073709551616) : ∃ (x : Nat) (E : Int),
    (∀ w : World, Calls Tryd.prog 22 #[.int .i64 n, .int .u64 m] w fun e w' => e = .returned (.tuple #[.int .u64 x, .int .i64 E]) ∧ Below w.heap.size w w') ∧
    (∀ w : World, Calls Tryd.prog 38 #[.int .i64 n, .int .u64 m] w fun e w' => e = .returned (.tuple #[.int .u64 x, .int .i64 E]) ∧ Below w.heap.size w w') := by
  by_cases h0 : m = 0
  · subst h0
    exact ⟨0, 2, fun w => power_zero n w, fun w => (rpower_zero n w).mono fun e w' ⟨h1, h2⟩ => ⟨h1, h2 ▸ bel_refl _⟩⟩
  · by_cases hn : n < 0
    · exact ⟨0, 2, fun w => power_neg n m hn h0 w, fun w => (rpower_neg n m hn h0 w).mono fun e w' ⟨h1, h2⟩ => ⟨h1, h2 ▸ bel_refl _⟩⟩
    · obtain ⟨k, rfl⟩ := Int.eq_ofNat_of_zero_le (show 0 ≤ n by omega)
      refine ⟨_, 0, fun w => ?_, rpower_any k m (by omega) hm h0⟩
      exact power_any (k : Int) m (by omega) h1 hm h0 w
theorem pair_reverse (a : Nat) (n : Int) (ha : a < 18446744073709551616) : ∃ (x : Nat) (E : Int),
    (∀ w : World, Calls Tryd.prog 24 #[.int .u64 a, .int .i64 n] w fun e w' => e = .returned (.tuple #[.int .u64 x, .int .i64 E]) ∧ Below w.heap.size w w') ∧
    (∀ w : World, Calls Tryd.prog 39 #[.int .u64 a, .int .i64 n] w fun e w' => e = .returned (.tuple #[.int .u64 x, .int .i64 E]) ∧ Below w.heap.size w w') := by
  by_cases hn : n < 0 ∨ 64 < n
  · exact ⟨0, 2, fun w => (reverse_err a n hn w).mono fun e w' ⟨h1, h2⟩ => ⟨h1, h2 ▸ bel_refl _⟩, fun w => (rreverse_err a n hn w).mono fun e w' ⟨h1, h2⟩ => ⟨h1, h2 ▸ bel_refl _⟩⟩
  · obtain ⟨k, rfl⟩ := Int.eq_ofNat_of_zero_le (show 0 ≤ n by omega)
    exact ⟨_, 0, fun w => (reverse_any a k ha (by omega) w).mono fun e w' ⟨h1, h2⟩ => ⟨h1, h2 ▸ bel_refl _⟩, fun w => (rreverse_any a k ha (by omega) w).mono fun e w' ⟨h1, h2⟩ => ⟨h1, h2 ▸ bel_refl _⟩⟩

set_option maxRecDepth 100000 in
set_option maxHeartbeats 4000000 in
theorem tells_any (a : Nat) (ha : a < 18446744073709551616) (b : Nat) (hb : b < 18446744073709551616) (m : Nat) (hm : m < 18446744073709551616) (n : Int) (hn : n ≤ 9223372036854775807) (w : World) :
    Calls Tryd.prog 21 #[.int .u64 a, .int .u64 b, .int .u64 m, .int .i64 n] w fun e w' => e = .returned (.bool true) ∧ Below w.heap.size w w' := by
  have m1 := mul_any a b ha hb
  have m2 := rmul_any a b ha hb
  obtain ⟨mv, HMV⟩ := nm (mulV a b)
  obtain ⟨me, HME⟩ := nm (mulE a b)
  rw [HMV.out, HME.out] at m1 m2
  obtain ⟨q, r, E, d1, d2⟩ := pair_div a b ha hb
  obtain ⟨x, F, x1, x2⟩ := pair_mulmod a b m ha hb hm
  obtain ⟨p, G, p1, p2⟩ := pair_power n m hn hm
  obtain ⟨y, H, y1, y2⟩ := pair_reverse a n ha
  have g1 := gcd_any a b ha hb
  have g2 := rgcd_any a b ha hb
  obtain ⟨g, HGV⟩ := nm (Gf.pgcd a b)
  rw [HGV.out] at g1 g2
  have dg := degree_any a ha
  have o1 := of_any a ha
  have hcl := coeffs_length a
  have hpl := plen_le64 ha
  obtain ⟨pa, HPA⟩ := nm (Gf.plen a)
  rw [HPA.out] at dg hcl hpl
  have M1 := Lib.hid m1
  have M2 := Lib.hid m2
  have D1 := Lib.hid d1
  have D2 := Lib.hid d2
  have X1 := Lib.hid x1
  have X2 := Lib.hid x2
  have P1 := Lib.hid p1
  have P2 := Lib.hid p2
  have Y1 := Lib.hid y1
  have Y2 := Lib.hid y2
  have G1 := Lib.hid g1
  have G2 := Lib.hid g2
  have DG := Lib.hid dg
  have O1 := Lib.hid o1
  have HCL := Lib.hid hcl
  clear m1 m2 d1 d2 x1 x2 p1 p2 y1 y2 g1 g2 dg o1 hcl
  go_enter Tryd.func21, Tryd.ntmps21
  go_wp2_with fail
  refine (M1.out _).mono ?_
  rintro e w1 ⟨rfl, hb1⟩
  have hB1 := hb1
  clear hb1
  go_wp2_with fail
  refine (M2.out _).mono ?_
  rintro e w2 ⟨rfl, hb2⟩
  have hB2 := hB1.trans (hb2.mono hB1.size)
  clear hB1 hb2
  go_wp2_with fail
  refine (D1.out _).mono ?_
  rintro e w3 ⟨rfl, hb3⟩
  have hB3 := hB2.trans (hb3.mono hB2.size)
  clear hB2 hb3
  go_wp2_with fail
  refine (D2.out _).mono ?_
  rintro e w4 ⟨rfl, hb4⟩
  have hB4 := hB3.trans (hb4.mono hB3.size)
  clear hB3 hb4
  go_wp2_with fail
  refine (DG.out _).mono ?_
  rintro e w5 ⟨rfl, hb5⟩
  have hB5 := hB4.trans (hb5.mono hB4.size)
  clear hB4 hb5
  go_wp2_with fail
  refine (O1.out _).mono ?_
  rintro e wo ⟨v1, rfl, ⟨ad, cap, rfl, _, _, hx⟩, hbo⟩
  clear hx
  rw [HCL.out]
  have hB6 := hB5.trans (hbo.mono hB5.size)
  clear hB5 hbo
  go_wp2_with fail
  refine (G1.out _).mono ?_
  rintro e w7 ⟨rfl, hb7⟩
  have hB7 := hB6.trans (hb7.mono hB6.size)
  clear hB6 hb7
  go_wp2_with fail
  refine (G2.out _).mono ?_
  rintro e w8 ⟨rfl, hb8⟩
  have hB8 := hB7.trans (hb8.mono hB7.size)
  clear hB7 hb8
  go_wp2_with fail
  refine (X1.out _).mono ?_
  rintro e w9 ⟨rfl, hb9⟩
  have hB9 := hB8.trans (hb9.mono hB8.size)
  clear hB8 hb9
  go_wp2_with fail
  refine (X2.out _).mono ?_
  rintro e w10 ⟨rfl, hb10⟩
  have hB10 := hB9.trans (hb10.mono hB9.size)
  clear hB9 hb10
  go_wp2_with fail
  refine (P1.out _).mono ?_
  rintro e w11 ⟨rfl, hb11⟩
  have hB11 := hB10.trans (hb11.mono hB10.size)
  clear hB10 hb11
  go_wp2_with fail
  refine (P2.out _).mono ?_
  rintro e w12 ⟨rfl, hb12⟩
  have hB12 := hB11.trans (hb12.mono hB11.size)
  clear hB11 hb12
  go_wp2_with fail
  refine (Y1.out _).mono ?_
  rintro e w13 ⟨rfl, hb13⟩
  have hB13 := hB12.trans (hb13.mono hB12.size)
  clear hB12 hb13
  go_wp2_with fail
  refine (Y2.out _).mono ?_
  rintro e w14 ⟨rfl, hb14⟩
  have hB14 := hB13.trans (hb14.mono hB13.size)
  clear hB13 hb14
  go_wp2_with fail
  go_ret
  exact ⟨rfl, hB14⟩

set_option maxRecDepth 100000 in
theorem polyTells_all (a : Nat) (ha : a < 18446744073709551616) (b : Nat) (hb : b < 18446744073709551616) (m : Nat) (hm : m < 18446744073709551616) (n : Int) (hn : -9223372036854775808 ≤ n ∧ n ≤ 9223372036854775807) (w : World) :
    Calls Tryd.prog 7 #[.int .u64 a, .int .u64 b, .int .u64 m, .int .i64 n] w fun e w' => e = .returned (.bool true) ∧ Below w.heap.size w w' := by
  go_enter Tryd.func7, Tryd.ntmps7
  go_wp2_with fail
  refine (tells_any a ha b hb m hm n hn.2 _).mono ?_
  rintro e w1 ⟨rfl, hb1⟩
  go_wp2_with fail
  refine (awake_any _).mono ?_
  rintro e w2 ⟨rfl, hb2⟩
  have hB2 := hb1.trans (hb2.mono hb1.size)
  clear hb1 hb2
  go_wp2_with fail
  go_ret
  exact ⟨rfl, hB2⟩

/-- What Order says of a polynomial that is too great. -/
theorem order_great (m : Nat) (hm : m < 18446744073709551616) (h : 2097152 ≤ m) (w : World) :
    Calls Tryd.prog 23 #[.int .u64 m] w fun e w' => e = .returned (.tuple #[.int .i64 0, .int .i64 2]) ∧ Below w.heap.size w w' := by
  have hp : 21 < Gf.plen m := Nat.lt_of_not_le fun hle => by
    have := Gf.plen_le.1 hle
    omega
  refine (order_any m hm w).mono ?_
  rintro e w' ⟨rfl, hb⟩
  refine ⟨?_, hb⟩
  unfold ordV ordE
  rw [if_pos (.inr (.inl hp)), if_pos (.inr hp)]
  rfl

set_option maxRecDepth 100000 in
set_option maxHeartbeats 1000000 in
theorem orders_any (m : Nat) (hm : m < 18446744073709551616) (w : World) :
    Calls Tryd.prog 13 #[.int .u64 m] w fun e w' => e = .returned (.bool true) ∧ Below w.heap.size w w' := by
  by_cases h1 : 131072 ≤ m
  · by_cases h2 : 2097152 ≤ m
    · have o1 := order_great m hm h2
      have O1 := Lib.hid o1
      have i1 : (131072 : Int) ≤ (m : Int) := by omega
      have i2 : (2097152 : Int) ≤ (m : Int) := by omega
      clear o1 h1 h2
      go_enter Tryd.func13, Tryd.ntmps13
      go_wp2_with fail
      refine (O1.out _).mono ?_
      rintro e w1 ⟨rfl, hb1⟩
      go_wp2_with fail
      go_ret
      exact ⟨rfl, hb1⟩
    · have i1 : (131072 : Int) ≤ (m : Int) := by omega
      have i2 : decide ((2097152 : Int) ≤ (m : Int)) = false := decide_eq_false (by omega)
      clear h1 h2
      go_enter Tryd.func13, Tryd.ntmps13
      go_wp2_with fail
      go_ret
      exact ⟨rfl, bel_refl _⟩
  · have o1 := order_any m hm
    have o2 := rorder_any m hm
    have o3 := irreducible_any m hm
    have o4 := rirr_any m (by omega)
    obtain ⟨v, HV⟩ := nm (ordV m)
    obtain ⟨E, HE⟩ := nm (ordE m)
    obtain ⟨b, HB⟩ := nm (irrB m)
    rw [HV.out, HE.out] at o1 o2
    rw [HB.out] at o3 o4
    have O1 := Lib.hid o1
    have O2 := Lib.hid o2
    have O3 := Lib.hid o3
    have O4 := Lib.hid o4
    have i1 : decide ((131072 : Int) ≤ (m : Int)) = false := decide_eq_false (by omega)
    clear o1 o2 o3 o4 h1
    go_enter Tryd.func13, Tryd.ntmps13
    go_wp2_with fail
    refine (O1.out _).mono ?_
    rintro e w1 ⟨rfl, hb1⟩
    have hB1 := hb1
    clear hb1
    go_wp2_with fail
    refine (O2.out _).mono ?_
    rintro e w2 ⟨rfl, hb2⟩
    have hB2 := hB1.trans (hb2.mono hB1.size)
    clear hB1 hb2
    go_wp2_with fail
    refine (O3.out _).mono ?_
    rintro e w3 ⟨rfl, hb3⟩
    have hB3 := hB2.trans (hb3.mono hB2.size)
    clear hB2 hb3
    go_wp2_with fail
    refine (O4.out _).mono ?_
    rintro e w4 ⟨rfl, hb4⟩
    have hB4 := hB3.trans (hb4.mono hB3.size)
    clear hB3 hb4
    go_wp2_with fail
    go_ret
    exact ⟨by cases b <;> rfl, hB4⟩

set_option maxRecDepth 100000 in
theorem polyOrders_all (m : Nat) (hm : m < 18446744073709551616) (w : World) :
    Calls Tryd.prog 3 #[.int .u64 m] w fun e w' => e = .returned (.bool true) ∧ Below w.heap.size w w' := by
  go_enter Tryd.func3, Tryd.ntmps3
  go_wp2_with fail
  refine (orders_any m hm _).mono ?_
  rintro e w1 ⟨rfl, hb1⟩
  go_wp2_with fail
  refine (awake_any _).mono ?_
  rintro e w2 ⟨rfl, hb2⟩
  have hB2 := hb1.trans (hb2.mono hb1.size)
  clear hb1 hb2
  go_wp2_with fail
  go_ret
  exact ⟨rfl, hB2⟩
end Go.Proofs.YtidkjcflppbpdaaDoor
