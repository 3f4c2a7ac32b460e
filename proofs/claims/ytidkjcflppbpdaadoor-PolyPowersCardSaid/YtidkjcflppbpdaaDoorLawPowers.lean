/- The walk of the law PolyPowers. -/
import Derived.Test.YtidkjcflppbpdaaDoorLawRing
import Derived.Test.YtidkjcflppbpdaaDoorIrrB
import Derived.Test.YtidkjcflppbpdaaDoorOrdP
namespace Go.Proofs.YtidkjcflppbpdaaDoor
open Go Go.RowKit Go.Shelf

theorem power_x (n : Nat) (m : Nat) (hn : n ≤ 9223372036854775807) (hm : m < 18446744073709551616) (hm0 : m ≠ 0) (w : World) :
    Calls Tryd.prog 22 #[.int .i64 (n : Int), .int .u64 m] w fun e w' => e = .returned (.tuple #[.int .u64 (Gf.xm m n), .int .i64 0]) ∧ Below w.heap.size w w' :=
  power_any n m (by omega) (by omega) hm hm0 w
theorem order_good (s : Nat) (h2 : 2 ≤ Gf.plen s) (h15 : Gf.plen s ≤ 15) (ho : s % 2 = 1) (hs : s < 18446744073709551616) (w : World) :
    Calls Tryd.prog 23 #[.int .u64 s] w fun e w' => e = .returned (.tuple #[.int .i64 (Gf.ord s), .int .i64 0]) ∧ Below w.heap.size w w' := by
  refine (order_any s hs w).mono ?_
  rintro e w' ⟨rfl, hb⟩
  refine ⟨?_, hb⟩
  unfold ordV ordE
  rw [if_neg (by omega), if_neg (by omega), if_neg (by omega)]

theorem plen_two {x : Nat} (h : 2 ≤ x) : 2 ≤ Gf.plen x := Nat.le_of_not_lt fun hlt => by
  have := Gf.plen_le.1 (show Gf.plen x ≤ 1 by omega)
  omega

theorem pow_mod (ld o : Nat) (h : ld ≤ 14) (hz : (2 ^ ld - 1) % o = 0) : (wrap64 (wrap64 ((2 : Int) ^ ld) - 1)).tmod (o : Int) = 0 := by
  have h1 := Nat.pow_le_pow_right (n := 2) (by decide) h
  have h2 := Nat.two_pow_pos ld
  have e : ((2 : Int) ^ ld) = ((2 ^ ld : Nat) : Int) := by simp
  obtain ⟨P, HP⟩ := nm (2 ^ ld)
  rw [HP.out] at h1 h2 e hz
  rw [e, IntWalk.wrap64_in (P : Int) ⟨by omega, by omega⟩, show ((P : Int) - 1) = ((P - 1 : Nat) : Int) by omega, IntWalk.wrap64_in ((P - 1 : Nat) : Int) ⟨by omega, by omega⟩]
  rw [Int.tmod_eq_emod_of_nonneg (Int.natCast_nonneg _), ← Int.natCast_emod, hz]
  rfl

set_option maxRecDepth 100000 in
set_option maxHeartbeats 8000000 in
theorem polyPowers_all (m : Nat) (hm : m < 18446744073709551616) (n : Nat) (hn : n < 4294967296) (k : Nat) (hk : k < 4294967296) (t : Nat) (ht : t < 65536) (w : World) :
    Calls Tryd.prog 8 #[.int .u64 m, .int .u32 n, .int .u32 k, .int .u16 t] w fun e w' => e = .returned (.bool true) ∧ Below w.heap.size w w' := by
  have em : max (m : Int) 1 = ((max m 1 : Nat) : Int) := by omega
  have lm : max m 1 < 18446744073709551616 ∧ 1 ≤ max m 1 := by omega
  obtain ⟨M, HM⟩ := nm (max m 1)
  rw [HM.out] at em lm
  have M0 : M ≠ 0 := by omega
  have ENK : Hid ((n : Int) + (k : Int) = ((n + k : Nat) : Int)) := Lib.hid (by omega)
  have c1 := power_x n M (by omega) lm.1 M0
  have c2 := power_x k M (by omega) lm.1 M0
  have c3 := power_x (n + k) M (by omega) lm.1 M0
  have hl : ∀ i, Gf.xm M i < 18446744073709551616 := fun i => pmod_lt64 _ M lm.1 M0
  have c4 := mulmod_any (Gf.xm M n) (Gf.xm M k) M (hl _) (hl _) lm.1 M0
  have hadd : Gf.pmod (Gf.pmul (Gf.xm M n) (Gf.xm M k)) M = Gf.xm M (n + k) := by
    unfold Gf.xm
    rw [Gf.pmod_mul_left _ _ M0, Gf.pmod_mul_right _ _ M0, Gf.xpow_add]
  rw [hadd] at c4
  obtain ⟨A, HA⟩ := nm (Gf.xm M n)
  obtain ⟨B, HB⟩ := nm (Gf.xm M k)
  obtain ⟨D, HD⟩ := nm (Gf.xm M (n + k))
  rw [HA.out] at c1 c4
  rw [HB.out] at c2 c4
  rw [HD.out] at c3 c4
  have C1 := Lib.hid c1
  have C2 := Lib.hid c2
  have C3 := Lib.hid c3
  have C4 := Lib.hid c4
  clear c1 c2 c3 c4 hadd hl
  have et : (t : Int) % 32768 = ((t % 32768 : Nat) : Int) := by omega
  have lt : t % 32768 < 32768 := Nat.mod_lt _ (by decide)
  obtain ⟨z, HZ⟩ := nm (t % 32768)
  rw [HZ.out] at et lt
  have hor : bits BinOp.or IntKind.u64 (z : Int) 1 = ((z ||| 1 : Nat) : Int) := u64_or_nat z 1 (by omega) (by decide)
  have lu : z ||| 1 < 32768 := Nat.or_lt_two_pow (n := 15) lt (by decide)
  have hu0 : (z ||| 1) % 2 = 1 := by
    have h : (z ||| 1).testBit 0 = true := by rw [Nat.testBit_or]; simp
    rw [Nat.testBit_zero] at h
    exact of_decide_eq_true h
  obtain ⟨u, HU⟩ := nm (z ||| 1)
  rw [HU.out] at hor lu hu0
  go_enter Tryd.func8, Tryd.ntmps8
  go_wp2_with fail
  refine (C1.out _).mono ?_
  rintro e w1 ⟨rfl, hb1⟩
  have hB1 := hb1
  clear hb1
  go_wp2_with fail
  refine (C2.out _).mono ?_
  rintro e w2 ⟨rfl, hb2⟩
  have hB2 := hB1.trans (hb2.mono hB1.size)
  clear hB1 hb2
  go_wp2_with fail
  rw [ENK.out]
  refine (C3.out _).mono ?_
  rintro e w3 ⟨rfl, hb3⟩
  have hB3 := hB2.trans (hb3.mono hB2.size)
  clear hB2 hb3
  go_wp2_with fail
  refine (C4.out _).mono ?_
  rintro e w4 ⟨rfl, hb4⟩
  have hB4 := hB3.trans (hb4.mono hB3.size)
  clear hB3 hb4 C1 C2 C3 C4
  by_cases hu1 : u = 1
  case neg =>
    have hub : ((u : Int) == 1) = false := beq_false_of_ne (by omega)
    go_wp2_with fail
    have S2 : 2 ≤ Gf.plen u := plen_two (by omega)
    have S15 : Gf.plen u ≤ 15 := Gf.plen_le.2 lu
    have SO := hu0
    have S0 : u ≠ 0 := fun e => by rw [e] at SO; cases SO
    have SL : u < 18446744073709551616 := by omega
    have o5 := order_good u S2 S15 SO SL
    have p0 := power_x 0 u (by decide) SL S0
    rw [Gf.xm_zero S2] at p0
    obtain ⟨a1, a2, a3, _⟩ := Gf.ord_ok S2 SO
    have hpart := fun k => @Gf.ord_part u k S2 SO
    have hpw := fun k w => power_x (Gf.ord u / k) u (by have := Nat.div_le_self (Gf.ord u) k; have := Nat.pow_le_pow_right (n := 2) (by decide) (show Gf.plen u - 1 ≤ 14 by omega); omega) SL S0 w
    have hol : Gf.ord u ≤ 16384 := by have := Nat.pow_le_pow_right (n := 2) (by decide) (show Gf.plen u - 1 ≤ 14 by omega); omega
    have pO := power_x (Gf.ord u) u (by omega) SL S0
    rw [a1] at pO
    have i1 := irreducible_any u SL
    have d1 := degree_any u SL
    have hirr := fun h => @Gf.ord_irr u (irr_of_irrB h) SO
    obtain ⟨o, HO⟩ := nm (Gf.ord u)
    rw [HO.out] at o5 hol pO a2
    simp only [HO.out] at hpart hpw hirr
    have O5 := Lib.hid o5
    have P0 := Lib.hid p0
    have PO := Lib.hid pO
    have I1 := Lib.hid i1
    have D1 := Lib.hid d1
    have HPART := Lib.hid hpart
    have HPW := Lib.hid hpw
    have HIRR := Lib.hid hirr
    clear o5 p0 pO i1 d1 hpart hpw hirr a1 a3
    refine (O5.out _).mono ?_
    rintro e w5 ⟨rfl, hb5⟩
    have hB5 := hB4.trans (hb5.mono hB4.size)
    clear hB4 hb5
    go_wp2_with fail
    refine (P0.out _).mono ?_
    rintro e w6 ⟨rfl, hb6⟩
    have hB6 := hB5.trans (hb6.mono hB5.size)
    clear hB5 hb6
    go_wp2_with fail
    refine (PO.out _).mono ?_
    rintro e w7 ⟨rfl, hb7⟩
    have hB7 := hB6.trans (hb7.mono hB6.size)
    clear hB6 hb7
    go_wp2_with fail
    go_loopw [23] (fun vi wr => ∃ j : Nat, 2 ≤ j ∧ j ≤ o + 2 ∧ vi = .int .i64 (j : Int) ∧ Below w.heap.size w wr) (fun vi _ => o + 2 - (intOf vi).toNat)
    case atStart => exact ⟨2, by omega, by omega, rfl, hB7⟩
    case round =>
      obtain ⟨j, hj2, hjo, rfl, hBr⟩ := hrel
      by_cases hlt : j ≤ o
      · have hmd : (o : Int).tmod (j : Int) = ((o % j : Nat) : Int) := rfl
        have hdv : (o : Int).tdiv (j : Int) = ((o / j : Nat) : Int) := rfl
        have hpp := HPART.out j hj2
        have hjz : ((j : Int) == 0) = false := beq_false_of_ne (by omega)
        have hdl : o / j ≤ o := Nat.div_le_self _ _
        have hml : o % j < j := Nat.mod_lt _ (by omega)
        have hw := HPW.out j
        obtain ⟨mo, HMO⟩ := nm (o % j)
        obtain ⟨dq, HDQ⟩ := nm (o / j)
        rw [HMO.out] at hmd hpp hml
        rw [HDQ.out] at hdv hpp hdl hw
        obtain ⟨xq, HXQ⟩ := nm (Gf.xm u dq)
        rw [HXQ.out] at hpp hw
        have HW := Lib.hid hw
        have HPP := Lib.hid hpp
        clear hpp hw
        by_cases hm0 : mo = 0
        · have hx1 : xq ≠ 1 := HPP.out hm0
          have hxz : ((xq : Int) == 1) = false := beq_false_of_ne (by omega)
          have hm0' : mo ≤ 0 := by omega
          clear hm0
          go_wp2_with fail
          refine (HW.out _).mono ?_
          rintro e w8 ⟨rfl, hb8⟩
          have hB8 := hBr.trans (hb8.mono hBr.size)
          clear hBr hb8
          go_wp2_with fail
          go_roundw
          case rel => exact ⟨j + 1, by omega, by omega, by go_num, hB8⟩
          case measure => simp [intOf]; omega
        · go_wp2_with fail
          go_roundw
          case rel => exact ⟨j + 1, by omega, by omega, by go_num, hBr⟩
          case measure => simp [intOf]; omega
      · go_wp2_with fail
        have i1 := I1.out
        cases hi : irrB u
        case false =>
          rw [hi] at i1
          refine (i1 _).mono ?_
          clear i1 I1
          rintro e w8 ⟨rfl, hb8⟩
          have hB8 := hBr.trans (hb8.mono hBr.size)
          clear hBr hb8
          go_wp2_with fail
          refine (awake_any _).mono ?_
          rintro e w9 ⟨rfl, hb9⟩
          have hB9 := hB8.trans (hb9.mono hB8.size)
          clear hB8 hb9
          go_wp2_with fail
          go_ret
          exact ⟨rfl, hB9⟩
        case true =>
          have hz := HIRR.out hi
          rw [hi] at i1
          refine (i1 _).mono ?_
          clear i1 I1
          rintro e w8 ⟨rfl, hb8⟩
          have hB8 := hBr.trans (hb8.mono hBr.size)
          clear hBr hb8
          have hld : ((Gf.plen u : Nat) : Int) - 1 = ((Gf.plen u - 1 : Nat) : Int) := by omega
          have hl14 : Gf.plen u - 1 ≤ 14 := by omega
          have d1 := D1.out
          rw [hld] at d1
          obtain ⟨ld, HLD⟩ := nm (Gf.plen u - 1)
          rw [HLD.out] at d1 hz hl14
          have D2 := Lib.hid d1
          have HZ2 := Lib.hid hz
          clear d1 D1 hz hld
          go_wp2_with fail
          refine (D2.out _).mono ?_
          rintro e w9 ⟨rfl, hb9⟩
          have hB9 := hB8.trans (hb9.mono hB8.size)
          clear hB8 hb9
          have hq := pow_mod ld o hl14 HZ2.out
          clear HZ2
          go_wp2_with fail
          refine (awake_any _).mono ?_
          rintro e w10 ⟨rfl, hb10⟩
          have hB10 := hB9.trans (hb10.mono hB9.size)
          clear hB9 hb10
          go_wp2_with fail
          go_ret
          exact ⟨rfl, hB10⟩
  case pos =>
    have hub : ((u : Int) == 1) = true := by rw [hu1]; rfl
    clear hu1
    go_wp2_with fail
    have S2 : 2 ≤ Gf.plen 3 := by decide
    have S15 : Gf.plen 3 ≤ 15 := by decide
    have SO : 3 % 2 = 1 := rfl
    have S0 : 3 ≠ 0 := fun e => by rw [e] at SO; cases SO
    have SL : 3 < 18446744073709551616 := by omega
    have o5 := order_good 3 S2 S15 SO SL
    have p0 := power_x 0 3 (by decide) SL S0
    rw [Gf.xm_zero S2] at p0
    obtain ⟨a1, a2, a3, _⟩ := Gf.ord_ok S2 SO
    have hpart := fun k => @Gf.ord_part 3 k S2 SO
    have hpw := fun k w => power_x (Gf.ord 3 / k) 3 (by have := Nat.div_le_self (Gf.ord 3) k; have := Nat.pow_le_pow_right (n := 2) (by decide) (show Gf.plen 3 - 1 ≤ 14 by omega); omega) SL S0 w
    have hol : Gf.ord 3 ≤ 16384 := by have := Nat.pow_le_pow_right (n := 2) (by decide) (show Gf.plen 3 - 1 ≤ 14 by omega); omega
    have pO := power_x (Gf.ord 3) 3 (by omega) SL S0
    rw [a1] at pO
    have i1 := irreducible_any 3 SL
    have d1 := degree_any 3 SL
    have hirr := fun h => @Gf.ord_irr 3 (irr_of_irrB h) SO
    obtain ⟨o, HO⟩ := nm (Gf.ord 3)
    rw [HO.out] at o5 hol pO a2
    simp only [HO.out] at hpart hpw hirr
    have O5 := Lib.hid o5
    have P0 := Lib.hid p0
    have PO := Lib.hid pO
    have I1 := Lib.hid i1
    have D1 := Lib.hid d1
    have HPART := Lib.hid hpart
    have HPW := Lib.hid hpw
    have HIRR := Lib.hid hirr
    clear o5 p0 pO i1 d1 hpart hpw hirr a1 a3
    refine (O5.out _).mono ?_
    rintro e w5 ⟨rfl, hb5⟩
    have hB5 := hB4.trans (hb5.mono hB4.size)
    clear hB4 hb5
    go_wp2_with fail
    refine (P0.out _).mono ?_
    rintro e w6 ⟨rfl, hb6⟩
    have hB6 := hB5.trans (hb6.mono hB5.size)
    clear hB5 hb6
    go_wp2_with fail
    refine (PO.out _).mono ?_
    rintro e w7 ⟨rfl, hb7⟩
    have hB7 := hB6.trans (hb7.mono hB6.size)
    clear hB6 hb7
    go_wp2_with fail
    go_loopw [23] (fun vi wr => ∃ j : Nat, 2 ≤ j ∧ j ≤ o + 2 ∧ vi = .int .i64 (j : Int) ∧ Below w.heap.size w wr) (fun vi _ => o + 2 - (intOf vi).toNat)
    case atStart => exact ⟨2, by omega, by omega, rfl, hB7⟩
    case round =>
      obtain ⟨j, hj2, hjo, rfl, hBr⟩ := hrel
      by_cases hlt : j ≤ o
      · have hmd : (o : Int).tmod (j : Int) = ((o % j : Nat) : Int) := rfl
        have hdv : (o : Int).tdiv (j : Int) = ((o / j : Nat) : Int) := rfl
        have hpp := HPART.out j hj2
        have hjz : ((j : Int) == 0) = false := beq_false_of_ne (by omega)
        have hdl : o / j ≤ o := Nat.div_le_self _ _
        have hml : o % j < j := Nat.mod_lt _ (by omega)
        have hw := HPW.out j
        obtain ⟨mo, HMO⟩ := nm (o % j)
        obtain ⟨dq, HDQ⟩ := nm (o / j)
        rw [HMO.out] at hmd hpp hml
        rw [HDQ.out] at hdv hpp hdl hw
        obtain ⟨xq, HXQ⟩ := nm (Gf.xm 3 dq)
        rw [HXQ.out] at hpp hw
        have HW := Lib.hid hw
        have HPP := Lib.hid hpp
        clear hpp hw
        by_cases hm0 : mo = 0
        · have hx1 : xq ≠ 1 := HPP.out hm0
          have hxz : ((xq : Int) == 1) = false := beq_false_of_ne (by omega)
          have hm0' : mo ≤ 0 := by omega
          clear hm0
          go_wp2_with fail
          refine (HW.out _).mono ?_
          rintro e w8 ⟨rfl, hb8⟩
          have hB8 := hBr.trans (hb8.mono hBr.size)
          clear hBr hb8
          go_wp2_with fail
          go_roundw
          case rel => exact ⟨j + 1, by omega, by omega, by go_num, hB8⟩
          case measure => simp [intOf]; omega
        · go_wp2_with fail
          go_roundw
          case rel => exact ⟨j + 1, by omega, by omega, by go_num, hBr⟩
          case measure => simp [intOf]; omega
      · go_wp2_with fail
        have i1 := I1.out
        cases hi : irrB 3
        case false =>
          rw [hi] at i1
          refine (i1 _).mono ?_
          clear i1 I1
          rintro e w8 ⟨rfl, hb8⟩
          have hB8 := hBr.trans (hb8.mono hBr.size)
          clear hBr hb8
          go_wp2_with fail
          refine (awake_any _).mono ?_
          rintro e w9 ⟨rfl, hb9⟩
          have hB9 := hB8.trans (hb9.mono hB8.size)
          clear hB8 hb9
          go_wp2_with fail
          go_ret
          exact ⟨rfl, hB9⟩
        case true =>
          have hz := HIRR.out hi
          rw [hi] at i1
          refine (i1 _).mono ?_
          clear i1 I1
          rintro e w8 ⟨rfl, hb8⟩
          have hB8 := hBr.trans (hb8.mono hBr.size)
          clear hBr hb8
          have hld : ((Gf.plen 3 : Nat) : Int) - 1 = ((Gf.plen 3 - 1 : Nat) : Int) := by omega
          have hl14 : Gf.plen 3 - 1 ≤ 14 := by omega
          have d1 := D1.out
          rw [hld] at d1
          obtain ⟨ld, HLD⟩ := nm (Gf.plen 3 - 1)
          rw [HLD.out] at d1 hz hl14
          have D2 := Lib.hid d1
          have HZ2 := Lib.hid hz
          clear d1 D1 hz hld
          go_wp2_with fail
          refine (D2.out _).mono ?_
          rintro e w9 ⟨rfl, hb9⟩
          have hB9 := hB8.trans (hb9.mono hB8.size)
          clear hB8 hb9
          have hq := pow_mod ld o hl14 HZ2.out
          clear HZ2
          go_wp2_with fail
          refine (awake_any _).mono ?_
          rintro e w10 ⟨rfl, hb10⟩
          have hB10 := hB9.trans (hb10.mono hB9.size)
          clear hB9 hb10
          go_wp2_with fail
          go_ret
          exact ⟨rfl, hB10⟩
end Go.Proofs.YtidkjcflppbpdaaDoor
