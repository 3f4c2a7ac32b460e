/- The walk of the law PolyProducts. -/
import Derived.Test.YtidkjcflppbpdaaDoorLawRing
import Derived.Test.YtidkjcflppbpdaaDoorIrrB
import Derived.Test.YtidkjcflppbpdaaDoorGcd
namespace Go.Proofs.YtidkjcflppbpdaaDoor
open Go Go.RowKit Go.Shelf

theorem irr_two : irrB 2 = true := by decide
theorem irr_three : irrB 3 = true := by decide
theorem irr_zero : irrB 0 = false := by decide
theorem irr_one : irrB 1 = false := by decide
theorem plen_two_le {x : Nat} (h : 2 ≤ x) : 2 ≤ Gf.plen x := Nat.le_of_not_lt fun hlt => by
  have := Gf.plen_le.1 (show Gf.plen x ≤ 1 by omega)
  omega

set_option maxRecDepth 100000 in
set_option maxHeartbeats 8000000 in
theorem polyProducts_all (a : Nat) (ha : a < 4294967296) (b : Nat) (hb : b < 4294967296) (p : Nat) (hp : p < 18446744073709551616) (q : Nat) (hq : q < 18446744073709551616) (w : World) :
    Calls Tryd.prog 5 #[.int .u32 a, .int .u32 b, .int .u64 p, .int .u64 q] w fun e w' => e = .returned (.bool true) ∧ Below w.heap.size w w' := by
  have ex : max (a : Int) 2 = ((max a 2 : Nat) : Int) := by omega
  have ey : max (b : Int) 2 = ((max b 2 : Nat) : Int) := by omega
  have lx : max a 2 < 4294967296 ∧ 2 ≤ max a 2 := by omega
  have ly : max b 2 < 4294967296 ∧ 2 ≤ max b 2 := by omega
  obtain ⟨x, HX⟩ := nm (max a 2)
  obtain ⟨y, HY⟩ := nm (max b 2)
  rw [HX.out] at ex lx
  rw [HY.out] at ey ly
  have px : Gf.plen x ≤ 32 := Gf.plen_le.2 lx.1
  have py : Gf.plen y ≤ 32 := Gf.plen_le.2 ly.1
  have p2 := plen_two_le lx.2
  have q2 := plen_two_le ly.2
  have hzl := Gf.plen_pmul (a := x) (b := y) (by omega) (by omega)
  have c1 := mul_small x y (by omega) (by omega) (by omega)
  have lz : Gf.pmul x y < 18446744073709551616 := pmul_lt64 (by omega)
  have c2 := irreducible_any (Gf.pmul x y) lz
  rw [irrB_product p2 q2] at c2
  have c3 := degree_any (Gf.pmul x y) lz
  have c4 := degree_any x (by omega)
  have c5 := degree_any y (by omega)
  obtain ⟨z, HZ⟩ := nm (Gf.pmul x y)
  rw [HZ.out] at c1 c2 c3 hzl lz
  obtain ⟨lx', HLX⟩ := nm (Gf.plen x)
  obtain ⟨ly', HLY⟩ := nm (Gf.plen y)
  rw [HLX.out] at c4 hzl p2 px
  rw [HLY.out] at c5 hzl q2 py
  have hzi : ((Gf.plen z : Nat) : Int) - 1 = (lx' : Int) - 1 + ((ly' : Int) - 1) := by omega
  obtain ⟨dz, HDZ⟩ : ∃ d : Int, Hid (((Gf.plen z : Nat) : Int) - 1 = d) := ⟨_, Lib.hid rfl⟩
  rw [HDZ.out] at c3 hzi
  rw [hzi] at c3
  have c6 := irreducible_any p hp
  have k2 := irreducible_any 2 (by decide)
  have k3 := irreducible_any 3 (by decide)
  have k0 := irreducible_any 0 (by decide)
  have k1 := irreducible_any 1 (by decide)
  rw [irr_two] at k2
  rw [irr_three] at k3
  rw [irr_zero] at k0
  rw [irr_one] at k1
  have C1 := Lib.hid c1
  have C2 := Lib.hid c2
  have C3 := Lib.hid c3
  have C4 := Lib.hid c4
  have C5 := Lib.hid c5
  have K2 := Lib.hid k2
  have K3 := Lib.hid k3
  have K0 := Lib.hid k0
  have K1 := Lib.hid k1
  clear c1 c2 c3 c4 c5 k2 k3 k0 k1 hzl hzi
  cases hip : irrB p
  case false =>
    rw [hip] at c6
    have C6 := Lib.hid c6
    clear c6 hip
    go_enter Tryd.func5, Tryd.ntmps5
    go_wp2_with fail
    refine (C1.out _).mono ?_
    rintro e w1 ⟨rfl, hb1⟩
    have hB1 := hb1
    clear hb1
    go_wp2_with fail
    refine (C2.out _).mono ?_
    rintro e w2 ⟨rfl, hb2⟩
    have hB2 := hB1.trans (hb2.mono hB1.size)
    clear hB1 hb2
    go_wp2_with fail
    refine (C3.out _).mono ?_
    rintro e w3 ⟨rfl, hb3⟩
    have hB3 := hB2.trans (hb3.mono hB2.size)
    clear hB2 hb3
    go_wp2_with fail
    refine (C4.out _).mono ?_
    rintro e w4 ⟨rfl, hb4⟩
    have hB4 := hB3.trans (hb4.mono hB3.size)
    clear hB3 hb4
    go_wp2_with fail
    refine (C5.out _).mono ?_
    rintro e w5 ⟨rfl, hb5⟩
    have hB5 := hB4.trans (hb5.mono hB4.size)
    clear hB4 hb5
    go_wp2_with fail
    refine (C6.out _).mono ?_
    rintro e w6 ⟨rfl, hb6⟩
    have hB6 := hB5.trans (hb6.mono hB5.size)
    clear hB5 hb6
    go_wp2_with fail
    refine (K2.out _).mono ?_
    rintro e w7 ⟨rfl, hb7⟩
    have hB7 := hB6.trans (hb7.mono hB6.size)
    clear hB6 hb7
    go_wp2_with fail
    refine (K3.out _).mono ?_
    rintro e w8 ⟨rfl, hb8⟩
    have hB8 := hB7.trans (hb8.mono hB7.size)
    clear hB7 hb8
    go_wp2_with fail
    refine (K0.out _).mono ?_
    rintro e w9 ⟨rfl, hb9⟩
    have hB9 := hB8.trans (hb9.mono hB8.size)
    clear hB8 hb9
    go_wp2_with fail
    refine (K1.out _).mono ?_
    rintro e w10 ⟨rfl, hb10⟩
    have hB10 := hB9.trans (hb10.mono hB9.size)
    clear hB9 hb10
    go_wp2_with fail
    refine (awake_any _).mono ?_
    rintro e w11 ⟨rfl, hb11⟩
    have hB11 := hB10.trans (hb11.mono hB10.size)
    clear hB10 hb11
    go_wp2_with fail
    go_ret
    exact ⟨rfl, hB11⟩
  case true =>
    rw [hip] at c6
    have C6 := Lib.hid c6
    have hI := irr_of_irrB hip
    have hI0 := hI.ne
    have hg := fun h => hI.gcd1 (c := Gf.pmod q p) h
    rw [Gf.pmod_pmod q hI0] at hg
    have hrl := pmod_lt64 q p hp hI0
    have d1 := div_any q p hq hp hI0
    have d2 := gcd_any p (Gf.pmod q p) hp hrl
    obtain ⟨r, HR⟩ := nm (Gf.pmod q p)
    obtain ⟨v, HV⟩ := nm (Gf.pdiv q p)
    rw [HR.out] at d1 d2 hg hrl
    rw [HV.out] at d1
    have D1 := Lib.hid d1
    have HG := Lib.hid hg
    clear c6 hip d1 hg hI
    rcases Nat.eq_zero_or_pos r with hr0 | hr0
    case inl =>
      have hrl0 : r ≤ 0 := by omega
      clear hr0 d2
      go_enter Tryd.func5, Tryd.ntmps5
      go_wp2_with fail
      refine (C1.out _).mono ?_
      rintro e w1 ⟨rfl, hb1⟩
      have hB1 := hb1
      clear hb1
      go_wp2_with fail
      refine (C2.out _).mono ?_
      rintro e w2 ⟨rfl, hb2⟩
      have hB2 := hB1.trans (hb2.mono hB1.size)
      clear hB1 hb2
      go_wp2_with fail
      refine (C3.out _).mono ?_
      rintro e w3 ⟨rfl, hb3⟩
      have hB3 := hB2.trans (hb3.mono hB2.size)
      clear hB2 hb3
      go_wp2_with fail
      refine (C4.out _).mono ?_
      rintro e w4 ⟨rfl, hb4⟩
      have hB4 := hB3.trans (hb4.mono hB3.size)
      clear hB3 hb4
      go_wp2_with fail
      refine (C5.out _).mono ?_
      rintro e w5 ⟨rfl, hb5⟩
      have hB5 := hB4.trans (hb5.mono hB4.size)
      clear hB4 hb5
      go_wp2_with fail
      refine (C6.out _).mono ?_
      rintro e w6 ⟨rfl, hb6⟩
      have hB6 := hB5.trans (hb6.mono hB5.size)
      clear hB5 hb6
      go_wp2_with fail
      refine (D1.out _).mono ?_
      rintro e w7 ⟨rfl, hb7⟩
      have hB7 := hB6.trans (hb7.mono hB6.size)
      clear hB6 hb7
      go_wp2_with fail
      refine (K2.out _).mono ?_
      rintro e w8 ⟨rfl, hb8⟩
      have hB8 := hB7.trans (hb8.mono hB7.size)
      clear hB7 hb8
      go_wp2_with fail
      refine (K3.out _).mono ?_
      rintro e w9 ⟨rfl, hb9⟩
      have hB9 := hB8.trans (hb9.mono hB8.size)
      clear hB8 hb9
      go_wp2_with fail
      refine (K0.out _).mono ?_
      rintro e w10 ⟨rfl, hb10⟩
      have hB10 := hB9.trans (hb10.mono hB9.size)
      clear hB9 hb10
      go_wp2_with fail
      refine (K1.out _).mono ?_
      rintro e w11 ⟨rfl, hb11⟩
      have hB11 := hB10.trans (hb11.mono hB10.size)
      clear hB10 hb11
      go_wp2_with fail
      refine (awake_any _).mono ?_
      rintro e w12 ⟨rfl, hb12⟩
      have hB12 := hB11.trans (hb12.mono hB11.size)
      clear hB11 hb12
      go_wp2_with fail
      go_ret
      exact ⟨rfl, hB12⟩
    case inr =>
      rw [HG.out (by omega)] at d2
      have D2 := Lib.hid d2
      clear d2
      go_enter Tryd.func5, Tryd.ntmps5
      go_wp2_with fail
      refine (C1.out _).mono ?_
      rintro e w1 ⟨rfl, hb1⟩
      have hB1 := hb1
      clear hb1
      go_wp2_with fail
      refine (C2.out _).mono ?_
      rintro e w2 ⟨rfl, hb2⟩
      have hB2 := hB1.trans (hb2.mono hB1.size)
      clear hB1 hb2
      go_wp2_with fail
      refine (C3.out _).mono ?_
      rintro e w3 ⟨rfl, hb3⟩
      have hB3 := hB2.trans (hb3.mono hB2.size)
      clear hB2 hb3
      go_wp2_with fail
      refine (C4.out _).mono ?_
      rintro e w4 ⟨rfl, hb4⟩
      have hB4 := hB3.trans (hb4.mono hB3.size)
      clear hB3 hb4
      go_wp2_with fail
      refine (C5.out _).mono ?_
      rintro e w5 ⟨rfl, hb5⟩
      have hB5 := hB4.trans (hb5.mono hB4.size)
      clear hB4 hb5
      go_wp2_with fail
      refine (C6.out _).mono ?_
      rintro e w6 ⟨rfl, hb6⟩
      have hB6 := hB5.trans (hb6.mono hB5.size)
      clear hB5 hb6
      go_wp2_with fail
      refine (D1.out _).mono ?_
      rintro e w7 ⟨rfl, hb7⟩
      have hB7 := hB6.trans (hb7.mono hB6.size)
      clear hB6 hb7
      go_wp2_with fail
      refine (D2.out _).mono ?_
      rintro e w8 ⟨rfl, hb8⟩
      have hB8 := hB7.trans (hb8.mono hB7.size)
      clear hB7 hb8
      go_wp2_with fail
      refine (K2.out _).mono ?_
      rintro e w9 ⟨rfl, hb9⟩
      have hB9 := hB8.trans (hb9.mono hB8.size)
      clear hB8 hb9
      go_wp2_with fail
      refine (K3.out _).mono ?_
      rintro e w10 ⟨rfl, hb10⟩
      have hB10 := hB9.trans (hb10.mono hB9.size)
      clear hB9 hb10
      go_wp2_with fail
      refine (K0.out _).mono ?_
      rintro e w11 ⟨rfl, hb11⟩
      have hB11 := hB10.trans (hb11.mono hB10.size)
      clear hB10 hb11
      go_wp2_with fail
      refine (K1.out _).mono ?_
      rintro e w12 ⟨rfl, hb12⟩
      have hB12 := hB11.trans (hb12.mono hB11.size)
      clear hB11 hb12
      go_wp2_with fail
      refine (awake_any _).mono ?_
      rintro e w13 ⟨rfl, hb13⟩
      have hB13 := hB12.trans (hb13.mono hB12.size)
      clear hB12 hb13
      go_wp2_with fail
      go_ret
      exact ⟨rfl, hB13⟩
end Go.Proofs.YtidkjcflppbpdaaDoor
