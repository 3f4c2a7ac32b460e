/- The walk of the law PolyRing. -/
import Derived.Test.YtidkjcflppbpdaaDoorAwakeC
import Derived.WalkLawsBesides
import Derived.Deep.DeepCutAuto
namespace Go.Proofs.YtidkjcflppbpdaaDoor
open Go Go.RowKit Go.Shelf

theorem mul_small (a b : Nat) (ha : a < 18446744073709551616) (hb : b < 18446744073709551616) (h : Gf.plen a + Gf.plen b ≤ 65) (w : World) :
    Calls Tryd.prog 16 #[.int .u64 a, .int .u64 b] w fun e w' => e = .returned (.tuple #[.int .u64 (Gf.pmul a b), .int .i64 0]) ∧ Below w.heap.size w w' := by
  refine (mul_any a b ha hb w).mono ?_
  rintro e w' ⟨rfl, hb⟩
  refine ⟨?_, hb⟩
  unfold mulV mulE
  by_cases h0 : a = 0 ∨ b = 0
  · rw [if_pos h0, if_pos h0]
    rcases h0 with rfl | rfl
    · rw [Gf.pmul_zero_left]
    · rw [Gf.pmul_zero_right]
  · rw [if_neg h0, if_neg h0, if_neg (by omega), if_neg (by omega)]
theorem pmul_lt64 {a b : Nat} (h : Gf.plen a + Gf.plen b ≤ 65) : Gf.pmul a b < 18446744073709551616 := by
  by_cases ha : a = 0
  · subst ha; rw [Gf.pmul_zero_left]; decide
  · by_cases hb : b = 0
    · subst hb; rw [Gf.pmul_zero_right]; decide
    · exact lt64_of_plen (by rw [Gf.plen_pmul ha hb]; omega)
theorem plen_pmul_le {a b : Nat} : Gf.plen (Gf.pmul a b) ≤ Gf.plen a + Gf.plen b := by
  by_cases ha : a = 0
  · subst ha; rw [Gf.pmul_zero_left]; simp [Gf.plen_zero]
  · by_cases hb : b = 0
    · subst hb; rw [Gf.pmul_zero_right]; simp [Gf.plen_zero]
    · rw [Gf.plen_pmul ha hb]; omega
theorem plen20 {x : Nat} (h : x < 1048576) : Gf.plen x ≤ 20 := Gf.plen_le.2 h

set_option maxRecDepth 100000 in
set_option maxHeartbeats 8000000 in
theorem polyRing_all (a : Nat) (ha : a < 18446744073709551616) (b : Nat) (hb : b < 18446744073709551616) (c : Nat) (hc : c < 18446744073709551616) (m : Nat) (hm : m < 18446744073709551616) (w : World) :
    Calls Tryd.prog 6 #[.int .u64 a, .int .u64 b, .int .u64 c, .int .u64 m] w fun e w' => e = .returned (.bool true) ∧ Below w.heap.size w w' := by
  have ex : (a : Int) % 1048576 = ((a % 1048576 : Nat) : Int) := by omega
  have ey : (b : Int) % 1048576 = ((b % 1048576 : Nat) : Int) := by omega
  have ez : (c : Int) % 1048576 = ((c % 1048576 : Nat) : Int) := by omega
  have lx : a % 1048576 < 1048576 := Nat.mod_lt _ (by decide)
  have ly : b % 1048576 < 1048576 := Nat.mod_lt _ (by decide)
  have lz : c % 1048576 < 1048576 := Nat.mod_lt _ (by decide)
  obtain ⟨x, HX⟩ := nm (a % 1048576)
  obtain ⟨y, HY⟩ := nm (b % 1048576)
  obtain ⟨z, HZ⟩ := nm (c % 1048576)
  rw [HX.out] at ex lx
  rw [HY.out] at ey ly
  rw [HZ.out] at ez lz
  have px := plen20 lx
  have py := plen20 ly
  have pz := plen20 lz
  have pyz : Gf.plen (y ^^^ z) ≤ 20 := plen20 (Nat.xor_lt_two_pow (n := 20) ly lz)
  have hyzx := u64_xor_nat y z (by omega) (by omega)
  have hyzl : y ^^^ z < 18446744073709551616 := by have := Nat.xor_lt_two_pow (n := 20) ly lz; omega
  have q1 : Gf.plen (Gf.pmul x y) ≤ 40 := Nat.le_trans plen_pmul_le (by omega)
  have q2 : Gf.plen (Gf.pmul y z) ≤ 40 := Nat.le_trans plen_pmul_le (by omega)
  have c1 := mul_small x y (by omega) (by omega) (by omega)
  have c2 := mul_small y x (by omega) (by omega) (by omega)
  have c3 := mul_small y z (by omega) (by omega) (by omega)
  have c4 := mul_small (Gf.pmul x y) z (lt64_of_plen (by omega)) (by omega) (by omega)
  have c5 := mul_small x (Gf.pmul y z) (by omega) (lt64_of_plen (by omega)) (by omega)
  have c6 := mul_small x z (by omega) (by omega) (by omega)
  have c7 := mul_small x (y ^^^ z) (by omega) hyzl (by omega)
  have c8 := mul_small a 1 ha (by decide) (by have := plen_le64 ha; have : Gf.plen 1 = 1 := rfl; omega)
  have e1 : Gf.pmul y x = Gf.pmul x y := Gf.pmul_comm _ _
  have e2 : Gf.pmul x (Gf.pmul y z) = Gf.pmul (Gf.pmul x y) z := (Gf.pmul_assoc _ _ _).symm
  have e3 : Gf.pmul x (y ^^^ z) = Gf.pmul x y ^^^ Gf.pmul x z := Gf.pmul_xor_right _ _ _
  have e4 : Gf.pmul a 1 = a := Gf.pmul_one_right _
  rw [e1] at c2
  rw [e2] at c5
  rw [e3] at c7
  rw [e4] at c8
  have l1 : Gf.pmul x y < 18446744073709551616 := lt64_of_plen (by omega)
  have l6 : Gf.pmul x z < 18446744073709551616 := lt64_of_plen (Nat.le_trans plen_pmul_le (by omega))
  have hx16 := u64_xor_nat _ _ l1 l6
  obtain ⟨xy, HXY⟩ := nm (Gf.pmul x y)
  obtain ⟨yz, HYZ⟩ := nm (Gf.pmul y z)
  obtain ⟨xz, HXZ⟩ := nm (Gf.pmul x z)
  obtain ⟨syz, HSYZ⟩ := nm (y ^^^ z)
  rw [HXY.out] at c1 c2 c4 c5 c7 hx16
  rw [HYZ.out] at c3 c5
  rw [HXZ.out] at c6 c7 hx16
  rw [HSYZ.out] at c7 hyzx
  obtain ⟨xyz, HXYZ⟩ := nm (Gf.pmul xy z)
  rw [HXYZ.out] at c4 c5
  obtain ⟨s3, HS3⟩ := nm (xy ^^^ xz)
  rw [HS3.out] at c7 hx16
  have C1 := Lib.hid c1
  have C2 := Lib.hid c2
  have C3 := Lib.hid c3
  have C4 := Lib.hid c4
  have C5 := Lib.hid c5
  have C6 := Lib.hid c6
  have C7 := Lib.hid c7
  have C8 := Lib.hid c8
  clear c1 c2 c3 c4 c5 c6 c7 c8 e1 e2 e3 e4 q1 q2 px py pz pyz l1 l6 hyzl
  have EX := Lib.hid ex
  have EY := Lib.hid ey
  have EZ := Lib.hid ez
  go_enter Tryd.func6, Tryd.ntmps6
  go_wp2_with fail
  refine (C1.out _).mono ?_
  rintro e w1 ⟨rfl, hb1⟩
  have hB1 := hb1
  clear hb1
  go_wp2_with fail
  refine (C2.out _).mono ?_
  rintro e w2 ⟨rfl, hb2⟩
  have hB2 := hB1.trans (hb2.mono hB1.size)
  clear hB1 hb2
  go_wp2_with fail
  refine (C3.out _).mono ?_
  rintro e w3 ⟨rfl, hb3⟩
  have hB3 := hB2.trans (hb3.mono hB2.size)
  clear hB2 hb3
  go_wp2_with fail
  refine (C4.out _).mono ?_
  rintro e w4 ⟨rfl, hb4⟩
  have hB4 := hB3.trans (hb4.mono hB3.size)
  clear hB3 hb4
  go_wp2_with fail
  refine (C5.out _).mono ?_
  rintro e w5 ⟨rfl, hb5⟩
  have hB5 := hB4.trans (hb5.mono hB4.size)
  clear hB4 hb5
  go_wp2_with fail
  refine (C6.out _).mono ?_
  rintro e w6 ⟨rfl, hb6⟩
  have hB6 := hB5.trans (hb6.mono hB5.size)
  clear hB5 hb6
  go_wp2_with fail
  refine (C7.out _).mono ?_
  rintro e w7 ⟨rfl, hb7⟩
  have hB7 := hB6.trans (hb7.mono hB6.size)
  clear hB6 hb7
  go_wp2_with fail
  refine (C8.out _).mono ?_
  rintro e w8 ⟨rfl, hb8⟩
  have hB8 := hB7.trans (hb8.mono hB7.size)
  clear hB7 hb8
  go_upto_region 12 with fail
  go_cut [3] (fun v wx => ∃ M : Nat, M < 18446744073709551616 ∧ M ≠ 0 ∧ v = .int .u64 (M : Int) ∧ w8 = wx)
  case first =>
    by_cases h1 : 1 ≤ m
    · go_wp2_with fail
      go_meet
      exact ⟨m, hm, by omega, by rw [show max (m : Int) 1 = (m : Int) by omega], rfl⟩
    · go_wp2_with fail
      go_meet
      exact ⟨1, by decide, by decide, by rw [show max (m : Int) 1 = ((1 : Nat) : Int) by omega], rfl⟩
  case rest =>
    obtain ⟨M, hM, hM0, rfl, rfl⟩ := hcut
    clear ex ey ez hyzx hx16 C1 C2 C3 C4 C5 C6 C7 C8
    have hl : ∀ t, Gf.pmod t M < 18446744073709551616 := fun t => pmod_lt64 t M hM hM0
    have hbcl : b ^^^ c < 18446744073709551616 := Nat.xor_lt_two_pow (n := 64) hb hc
    have hbcx := u64_xor_nat b c hb hc
    have d1 := mulmod_any a b M ha hb hM hM0
    have d2 := mulmod_any b c M hb hc hM hM0
    have d3 := mulmod_any (Gf.pmod (Gf.pmul a b) M) c M (hl _) hc hM hM0
    have d4 := mulmod_any a (Gf.pmod (Gf.pmul b c) M) M ha (hl _) hM hM0
    have d5 := mulmod_any a c M ha hc hM hM0
    have d6 := mulmod_any a (b ^^^ c) M ha hbcl hM hM0
    have d7 := div_any a M ha hM hM0
    have d8 := mulmod_any a 1 M ha (by decide) hM hM0
    have e1 : Gf.pmod (Gf.pmul a (Gf.pmod (Gf.pmul b c) M)) M = Gf.pmod (Gf.pmul (Gf.pmod (Gf.pmul a b) M) c) M := by rw [Gf.pmod_mul_left _ _ hM0, Gf.pmod_mul_right _ _ hM0, Gf.pmul_assoc]
    have e2 : Gf.pmod (Gf.pmul a (b ^^^ c)) M = Gf.pmod (Gf.pmul a b) M ^^^ Gf.pmod (Gf.pmul a c) M := by rw [Gf.pmul_xor_right, Gf.pmod_xor _ _ hM0]
    have e3 : Gf.pmod (Gf.pmul a 1) M = Gf.pmod a M := by rw [Gf.pmul_one_right]
    rw [e1] at d4
    rw [e2] at d6
    rw [e3] at d8
    have hpt := u64_xor_nat _ _ (hl (Gf.pmul a b)) (hl (Gf.pmul a c))
    have hpp := Gf.plen_pmod (Gf.pmul a b) hM0
    have d9 := degree_any _ (hl (Gf.pmul a b))
    have d10 := degree_any M hM
    obtain ⟨P, HP⟩ := nm (Gf.pmod (Gf.pmul a b) M)
    obtain ⟨Q, HQ⟩ := nm (Gf.pmod (Gf.pmul b c) M)
    obtain ⟨T, HT⟩ := nm (Gf.pmod (Gf.pmul a c) M)
    obtain ⟨V, HV⟩ := nm (Gf.pmod a M)
    obtain ⟨U, HU⟩ := nm (Gf.pdiv a M)
    obtain ⟨bc, HBC⟩ := nm (b ^^^ c)
    rw [HP.out] at d1 d3 d4 d6 d9 hpt hpp
    rw [HQ.out] at d2 d4
    rw [HT.out] at d5 d6 hpt
    rw [HV.out] at d7 d8
    rw [HU.out] at d7
    rw [HBC.out] at d6 hbcx
    obtain ⟨R, HR⟩ := nm (Gf.pmod (Gf.pmul P c) M)
    obtain ⟨W, HW⟩ := nm (P ^^^ T)
    obtain ⟨lp, HLP⟩ := nm (Gf.plen P)
    obtain ⟨lm, HLM⟩ := nm (Gf.plen M)
    rw [HR.out] at d3 d4
    rw [HW.out] at d6 hpt
    rw [HLP.out] at d9 hpp
    rw [HLM.out] at d10 hpp
    have hml := plen_le64 hM
    rw [HLM.out] at hml
    have D1 := Lib.hid d1
    have D2 := Lib.hid d2
    have D3 := Lib.hid d3
    have D4 := Lib.hid d4
    have D5 := Lib.hid d5
    have D6 := Lib.hid d6
    have D7 := Lib.hid d7
    have D8 := Lib.hid d8
    have D9 := Lib.hid d9
    have D10 := Lib.hid d10
    clear d1 d2 d3 d4 d5 d6 d7 d8 d9 d10 e1 e2 e3 hl hbcl
    go_wp2_with fail
    refine (D1.out _).mono ?_
    rintro e w9 ⟨rfl, hb9⟩
    have hB9 := hB8.trans (hb9.mono hB8.size)
    clear hB8 hb9
    go_wp2_with fail
    refine (D2.out _).mono ?_
    rintro e w10 ⟨rfl, hb10⟩
    have hB10 := hB9.trans (hb10.mono hB9.size)
    clear hB9 hb10
    go_wp2_with fail
    refine (D3.out _).mono ?_
    rintro e w11 ⟨rfl, hb11⟩
    have hB11 := hB10.trans (hb11.mono hB10.size)
    clear hB10 hb11
    go_wp2_with fail
    refine (D4.out _).mono ?_
    rintro e w12 ⟨rfl, hb12⟩
    have hB12 := hB11.trans (hb12.mono hB11.size)
    clear hB11 hb12
    go_wp2_with fail
    refine (D5.out _).mono ?_
    rintro e w13 ⟨rfl, hb13⟩
    have hB13 := hB12.trans (hb13.mono hB12.size)
    clear hB12 hb13
    go_wp2_with fail
    refine (D6.out _).mono ?_
    rintro e w14 ⟨rfl, hb14⟩
    have hB14 := hB13.trans (hb14.mono hB13.size)
    clear hB13 hb14
    go_wp2_with fail
    refine (D7.out _).mono ?_
    rintro e w15 ⟨rfl, hb15⟩
    have hB15 := hB14.trans (hb15.mono hB14.size)
    clear hB14 hb15
    go_wp2_with fail
    refine (D8.out _).mono ?_
    rintro e w16 ⟨rfl, hb16⟩
    have hB16 := hB15.trans (hb16.mono hB15.size)
    clear hB15 hb16
    go_wp2_with fail
    refine (D9.out _).mono ?_
    rintro e w17 ⟨rfl, hb17⟩
    have hB17 := hB16.trans (hb17.mono hB16.size)
    clear hB16 hb17
    go_wp2_with fail
    refine (D10.out _).mono ?_
    rintro e w18 ⟨rfl, hb18⟩
    have hB18 := hB17.trans (hb18.mono hB17.size)
    clear hB17 hb18
    by_cases h1 : (1 : Int) ≤ (lm : Int) - 1
    all_goals
      go_wp2_with fail
      refine (awake_any _).mono ?_
      rintro e w19 ⟨rfl, hb19⟩
      have hB19 := hB18.trans (hb19.mono hB18.size)
      clear hB18 hb19
      go_wp2_with fail
      go_ret
      exact ⟨rfl, hB19⟩
end Go.Proofs.YtidkjcflppbpdaaDoor
