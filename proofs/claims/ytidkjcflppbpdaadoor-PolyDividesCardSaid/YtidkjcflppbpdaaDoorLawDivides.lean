/- The walk of the law PolyDivides. -/
import Derived.Test.YtidkjcflppbpdaaDoorLawRing
import Derived.Test.YtidkjcflppbpdaaDoorGcd
import Derived.Test.YtidkjcflppbpdaaDoorGcdP
namespace Go.Proofs.YtidkjcflppbpdaaDoor
open Go Go.RowKit Go.Shelf

set_option maxRecDepth 100000 in
set_option maxHeartbeats 8000000 in
theorem polyDivides_all (a : Nat) (ha : a < 18446744073709551616) (b : Nat) (hb : b < 18446744073709551616) (c : Nat) (hc : c < 18446744073709551616) (w : World) :
    Calls Tryd.prog 4 #[.int .u64 a, .int .u64 b, .int .u64 c] w fun e w' => e = .returned (.bool true) ∧ Below w.heap.size w w' := by
  have ex : (a : Int) % 1099511627776 = ((a % 1099511627776 : Nat) : Int) := by omega
  have ey : (b : Int) % 1099511627776 = ((b % 1099511627776 : Nat) : Int) := by omega
  have ez : (c : Int) % 4096 = ((c % 4096 : Nat) : Int) := by omega
  have lx : a % 1099511627776 < 1099511627776 := Nat.mod_lt _ (by decide)
  have ly : b % 1099511627776 < 1099511627776 := Nat.mod_lt _ (by decide)
  have lz : c % 4096 < 4096 := Nat.mod_lt _ (by decide)
  obtain ⟨x, HX⟩ := nm (a % 1099511627776)
  obtain ⟨y, HY⟩ := nm (b % 1099511627776)
  obtain ⟨z, HZ⟩ := nm (c % 4096)
  rw [HX.out] at ex lx
  rw [HY.out] at ey ly
  rw [HZ.out] at ez lz
  have hor : bits BinOp.or IntKind.u64 (z : Int) 1 = ((z ||| 1 : Nat) : Int) := u64_or_nat z 1 (by omega) (by decide)
  have lu : z ||| 1 < 4096 := Nat.or_lt_two_pow (n := 12) lz (by decide)
  have hu0 : z ||| 1 ≠ 0 := fun h => by
    have : (z ||| 1).testBit 0 = true := by rw [Nat.testBit_or]; simp
    rw [h] at this; simp at this
  obtain ⟨u, HU⟩ := nm (z ||| 1)
  rw [HU.out] at hor lu hu0
  have px : Gf.plen x ≤ 40 := Gf.plen_le.2 lx
  have py : Gf.plen y ≤ 40 := Gf.plen_le.2 ly
  have pu : Gf.plen u ≤ 12 := Gf.plen_le.2 lu
  have c5 := mul_small x u (by omega) (by omega) (by omega)
  have c6 := mul_small y u (by omega) (by omega) (by omega)
  have lX : Gf.pmul x u < 18446744073709551616 := pmul_lt64 (by omega)
  have lY : Gf.pmul y u < 18446744073709551616 := pmul_lt64 (by omega)
  have mX : Gf.pmod (Gf.pmul x u) u = 0 := Gf.pmod_mul_self x hu0
  have mY : Gf.pmod (Gf.pmul y u) u = 0 := Gf.pmod_mul_self y hu0
  obtain ⟨X, HXX⟩ := nm (Gf.pmul x u)
  obtain ⟨Y, HYY⟩ := nm (Gf.pmul y u)
  rw [HXX.out] at c5 lX mX
  rw [HYY.out] at c6 lY mY
  have c7 := gcd_any X Y lX lY
  have lG : Gf.pgcd X Y < 18446744073709551616 := lt64_of_plen (by have := Gf.pgcd_plen X Y; have := plen_le64 lX; have := plen_le64 lY; omega)
  have c8 := div_any (Gf.pgcd X Y) u lG (by omega) hu0
  rw [Gf.pgcd_common hu0 mX mY] at c8
  obtain ⟨G, HG⟩ := nm (Gf.pgcd X Y)
  rw [HG.out] at c7 c8 lG
  obtain ⟨Q8, HQ8⟩ := nm (Gf.pdiv G u)
  rw [HQ8.out] at c8
  have c3 := gcd_any a b ha hb
  have c4 := gcd_any b a hb ha
  rw [Gf.pgcd_comm b a] at c4
  have lg : Gf.pgcd a b < 18446744073709551616 := lt64_of_plen (by have := Gf.pgcd_plen a b; have := plen_le64 ha; have := plen_le64 hb; omega)
  have zg := Gf.pgcd_zero_iff a b
  have dg := @Gf.pgcd_dvd a b
  obtain ⟨g, HGG⟩ := nm (Gf.pgcd a b)
  rw [HGG.out] at c3 c4 lg zg dg
  have C3 := Lib.hid c3
  have C4 := Lib.hid c4
  have C5 := Lib.hid c5
  have C6 := Lib.hid c6
  have C7 := Lib.hid c7
  have C8 := Lib.hid c8
  have DG := Lib.hid dg
  have ZG := Lib.hid zg
  clear c3 c4 c5 c6 c7 c8 dg zg mX mY px py pu lX lY
  rcases Nat.eq_zero_or_pos b with hb0 | hb0
  case inr =>
    have hbn : b ≠ 0 := by omega
    have hg0 : g ≠ 0 := fun h => hbn (ZG.out.1 h).2
    have d1 := div_any a b ha hb hbn
    have hq := Gf.plen_quot (a := a) hbn (plen_le64 ha) (plen_le64 hb)
    have d2 := mul_small (Gf.pdiv a b) b (lt64_of_plen (by have := Gf.plen_pos hbn; omega)) hb hq
    have hpq := pmul_lt64 hq
    have hrl := pmod_lt64 a b hb hbn
    have hbk := u64_xor_nat _ _ hpq hrl
    rw [← Gf.pdiv_pmod a hbn] at hbk
    have d3 := degree_any _ hrl
    have d4 := degree_any b hb
    have hrb := Gf.plen_pmod a hbn
    obtain ⟨q, HQ⟩ := nm (Gf.pdiv a b)
    obtain ⟨r, HR⟩ := nm (Gf.pmod a b)
    rw [HQ.out] at d1 d2 hbk
    rw [HR.out] at d1 d3 hbk hrb
    obtain ⟨p, HP⟩ := nm (Gf.pmul q b)
    rw [HP.out] at d2 hbk
    obtain ⟨lr, HLR⟩ := nm (Gf.plen r)
    obtain ⟨lb, HLB⟩ := nm (Gf.plen b)
    rw [HLR.out] at d3 hrb
    rw [HLB.out] at d4 hrb
    have D1 := Lib.hid d1
    have D2 := Lib.hid d2
    have D3 := Lib.hid d3
    have D4 := Lib.hid d4
    clear d1 d2 d3 d4 hq hpq hrl
    have d5 := div_any a g ha lg hg0
    have d6 := div_any b g hb lg hg0
    rw [(DG.out hg0).1] at d5
    rw [(DG.out hg0).2] at d6
    obtain ⟨q5, HQ5⟩ := nm (Gf.pdiv a g)
    obtain ⟨q6, HQ6⟩ := nm (Gf.pdiv b g)
    rw [HQ5.out] at d5
    rw [HQ6.out] at d6
    have D5 := Lib.hid d5
    have D6 := Lib.hid d6
    clear d5 d6
    have hgz : ((g : Int) == 0) = false := beq_false_of_ne (by omega)
    have hbz : ((b : Int) == 0) = false := beq_false_of_ne (by omega)
    rcases Nat.eq_zero_or_pos a with ha0 | ha0
    case inr =>
      have haz : ((a : Int) == 0) = false := beq_false_of_ne (by omega)
      go_enter Tryd.func4, Tryd.ntmps4
      go_wp2_with fail
      refine (D1.out _).mono ?_
      rintro e w1 ⟨rfl, hb1⟩
      have hB1 := hb1
      clear hb1
      go_wp2_with fail
      refine (D2.out _).mono ?_
      rintro e w2 ⟨rfl, hb2⟩
      have hB2 := hB1.trans (hb2.mono hB1.size)
      clear hB1 hb2
      go_wp2_with fail
      refine (D3.out _).mono ?_
      rintro e w3 ⟨rfl, hb3⟩
      have hB3 := hB2.trans (hb3.mono hB2.size)
      clear hB2 hb3
      go_wp2_with fail
      refine (D4.out _).mono ?_
      rintro e w4 ⟨rfl, hb4⟩
      have hB4 := hB3.trans (hb4.mono hB3.size)
      clear hB3 hb4
      go_wp2_with fail
      refine (C3.out _).mono ?_
      rintro e w5 ⟨rfl, hb5⟩
      have hB5 := hB4.trans (hb5.mono hB4.size)
      clear hB4 hb5
      go_wp2_with fail
      refine (C4.out _).mono ?_
      rintro e w6 ⟨rfl, hb6⟩
      have hB6 := hB5.trans (hb6.mono hB5.size)
      clear hB5 hb6
      go_wp2_with fail
      refine (D5.out _).mono ?_
      rintro e w7 ⟨rfl, hb7⟩
      have hB7 := hB6.trans (hb7.mono hB6.size)
      clear hB6 hb7
      go_wp2_with fail
      refine (D6.out _).mono ?_
      rintro e w8 ⟨rfl, hb8⟩
      have hB8 := hB7.trans (hb8.mono hB7.size)
      clear hB7 hb8
      go_wp2_with fail
      refine (C5.out _).mono ?_
      rintro e w9 ⟨rfl, hb9⟩
      have hB9 := hB8.trans (hb9.mono hB8.size)
      clear hB8 hb9
      go_wp2_with fail
      refine (C6.out _).mono ?_
      rintro e w10 ⟨rfl, hb10⟩
      have hB10 := hB9.trans (hb10.mono hB9.size)
      clear hB9 hb10
      go_wp2_with fail
      refine (C7.out _).mono ?_
      rintro e w11 ⟨rfl, hb11⟩
      have hB11 := hB10.trans (hb11.mono hB10.size)
      clear hB10 hb11
      go_wp2_with fail
      refine (C8.out _).mono ?_
      rintro e w12 ⟨rfl, hb12⟩
      have hB12 := hB11.trans (hb12.mono hB11.size)
      clear hB11 hb12
      go_wp2_with fail
      refine (awake_any _).mono ?_
      rintro e w13 ⟨rfl, hb13⟩
      have hB13 := hB12.trans (hb13.mono hB12.size)
      clear hB12 hb13
      go_wp2_with fail
      go_ret
      exact ⟨rfl, hB13⟩
    case inl =>
      have haz : ((a : Int) == 0) = true := by rw [ha0]; rfl
      have hal : a ≤ 0 := by omega
      clear ha0
      go_enter Tryd.func4, Tryd.ntmps4
      go_wp2_with fail
      refine (D1.out _).mono ?_
      rintro e w1 ⟨rfl, hb1⟩
      have hB1 := hb1
      clear hb1
      go_wp2_with fail
      refine (D2.out _).mono ?_
      rintro e w2 ⟨rfl, hb2⟩
      have hB2 := hB1.trans (hb2.mono hB1.size)
      clear hB1 hb2
      go_wp2_with fail
      refine (D3.out _).mono ?_
      rintro e w3 ⟨rfl, hb3⟩
      have hB3 := hB2.trans (hb3.mono hB2.size)
      clear hB2 hb3
      go_wp2_with fail
      refine (D4.out _).mono ?_
      rintro e w4 ⟨rfl, hb4⟩
      have hB4 := hB3.trans (hb4.mono hB3.size)
      clear hB3 hb4
      go_wp2_with fail
      refine (C3.out _).mono ?_
      rintro e w5 ⟨rfl, hb5⟩
      have hB5 := hB4.trans (hb5.mono hB4.size)
      clear hB4 hb5
      go_wp2_with fail
      refine (C4.out _).mono ?_
      rintro e w6 ⟨rfl, hb6⟩
      have hB6 := hB5.trans (hb6.mono hB5.size)
      clear hB5 hb6
      go_wp2_with fail
      refine (D5.out _).mono ?_
      rintro e w7 ⟨rfl, hb7⟩
      have hB7 := hB6.trans (hb7.mono hB6.size)
      clear hB6 hb7
      go_wp2_with fail
      refine (D6.out _).mono ?_
      rintro e w8 ⟨rfl, hb8⟩
      have hB8 := hB7.trans (hb8.mono hB7.size)
      clear hB7 hb8
      go_wp2_with fail
      refine (C5.out _).mono ?_
      rintro e w9 ⟨rfl, hb9⟩
      have hB9 := hB8.trans (hb9.mono hB8.size)
      clear hB8 hb9
      go_wp2_with fail
      refine (C6.out _).mono ?_
      rintro e w10 ⟨rfl, hb10⟩
      have hB10 := hB9.trans (hb10.mono hB9.size)
      clear hB9 hb10
      go_wp2_with fail
      refine (C7.out _).mono ?_
      rintro e w11 ⟨rfl, hb11⟩
      have hB11 := hB10.trans (hb11.mono hB10.size)
      clear hB10 hb11
      go_wp2_with fail
      refine (C8.out _).mono ?_
      rintro e w12 ⟨rfl, hb12⟩
      have hB12 := hB11.trans (hb12.mono hB11.size)
      clear hB11 hb12
      go_wp2_with fail
      refine (awake_any _).mono ?_
      rintro e w13 ⟨rfl, hb13⟩
      have hB13 := hB12.trans (hb13.mono hB12.size)
      clear hB12 hb13
      go_wp2_with fail
      go_ret
      exact ⟨rfl, hB13⟩
  case inl =>
    rcases Nat.eq_zero_or_pos a with ha0 | ha0
    case inr =>
      have hg0 : g ≠ 0 := fun h => absurd (ZG.out.1 h).1 (by omega)
      have d5 := div_any a g ha lg hg0
      have d6 := div_any b g hb lg hg0
      rw [(DG.out hg0).1] at d5
      rw [(DG.out hg0).2] at d6
      obtain ⟨q5, HQ5⟩ := nm (Gf.pdiv a g)
      obtain ⟨q6, HQ6⟩ := nm (Gf.pdiv b g)
      rw [HQ5.out] at d5
      rw [HQ6.out] at d6
      have D5 := Lib.hid d5
      have D6 := Lib.hid d6
      clear d5 d6
      have hgz : ((g : Int) == 0) = false := beq_false_of_ne (by omega)
      have hbz : ((b : Int) == 0) = true := by rw [hb0]; rfl
      have hbl : b ≤ 0 := by omega
      clear hb0
      have haz : ((a : Int) == 0) = false := beq_false_of_ne (by omega)
      go_enter Tryd.func4, Tryd.ntmps4
      go_wp2_with fail
      refine (C3.out _).mono ?_
      rintro e w1 ⟨rfl, hb1⟩
      have hB1 := hb1
      clear hb1
      go_wp2_with fail
      refine (C4.out _).mono ?_
      rintro e w2 ⟨rfl, hb2⟩
      have hB2 := hB1.trans (hb2.mono hB1.size)
      clear hB1 hb2
      go_wp2_with fail
      refine (D5.out _).mono ?_
      rintro e w3 ⟨rfl, hb3⟩
      have hB3 := hB2.trans (hb3.mono hB2.size)
      clear hB2 hb3
      go_wp2_with fail
      refine (D6.out _).mono ?_
      rintro e w4 ⟨rfl, hb4⟩
      have hB4 := hB3.trans (hb4.mono hB3.size)
      clear hB3 hb4
      go_wp2_with fail
      refine (C5.out _).mono ?_
      rintro e w5 ⟨rfl, hb5⟩
      have hB5 := hB4.trans (hb5.mono hB4.size)
      clear hB4 hb5
      go_wp2_with fail
      refine (C6.out _).mono ?_
      rintro e w6 ⟨rfl, hb6⟩
      have hB6 := hB5.trans (hb6.mono hB5.size)
      clear hB5 hb6
      go_wp2_with fail
      refine (C7.out _).mono ?_
      rintro e w7 ⟨rfl, hb7⟩
      have hB7 := hB6.trans (hb7.mono hB6.size)
      clear hB6 hb7
      go_wp2_with fail
      refine (C8.out _).mono ?_
      rintro e w8 ⟨rfl, hb8⟩
      have hB8 := hB7.trans (hb8.mono hB7.size)
      clear hB7 hb8
      go_wp2_with fail
      refine (awake_any _).mono ?_
      rintro e w9 ⟨rfl, hb9⟩
      have hB9 := hB8.trans (hb9.mono hB8.size)
      clear hB8 hb9
      go_wp2_with fail
      go_ret
      exact ⟨rfl, hB9⟩
    case inl =>
      have hg0 : g = 0 := ZG.out.2 ⟨ha0, hb0⟩
      have hgz : ((g : Int) == 0) = true := by rw [hg0]; rfl
      have hgl : g ≤ 0 := by omega
      clear hg0
      have hbz : ((b : Int) == 0) = true := by rw [hb0]; rfl
      have hbl : b ≤ 0 := by omega
      have haz : ((a : Int) == 0) = true := by rw [ha0]; rfl
      have hal : a ≤ 0 := by omega
      clear ha0
      clear hb0
      go_enter Tryd.func4, Tryd.ntmps4
      go_wp2_with fail
      refine (C3.out _).mono ?_
      rintro e w1 ⟨rfl, hb1⟩
      have hB1 := hb1
      clear hb1
      go_wp2_with fail
      refine (C4.out _).mono ?_
      rintro e w2 ⟨rfl, hb2⟩
      have hB2 := hB1.trans (hb2.mono hB1.size)
      clear hB1 hb2
      go_wp2_with fail
      refine (C5.out _).mono ?_
      rintro e w3 ⟨rfl, hb3⟩
      have hB3 := hB2.trans (hb3.mono hB2.size)
      clear hB2 hb3
      go_wp2_with fail
      refine (C6.out _).mono ?_
      rintro e w4 ⟨rfl, hb4⟩
      have hB4 := hB3.trans (hb4.mono hB3.size)
      clear hB3 hb4
      go_wp2_with fail
      refine (C7.out _).mono ?_
      rintro e w5 ⟨rfl, hb5⟩
      have hB5 := hB4.trans (hb5.mono hB4.size)
      clear hB4 hb5
      go_wp2_with fail
      refine (C8.out _).mono ?_
      rintro e w6 ⟨rfl, hb6⟩
      have hB6 := hB5.trans (hb6.mono hB5.size)
      clear hB5 hb6
      go_wp2_with fail
      refine (awake_any _).mono ?_
      rintro e w7 ⟨rfl, hb7⟩
      have hB7 := hB6.trans (hb7.mono hB6.size)
      clear hB6 hb7
      go_wp2_with fail
      go_ret
      exact ⟨rfl, hB7⟩
end Go.Proofs.YtidkjcflppbpdaaDoor
