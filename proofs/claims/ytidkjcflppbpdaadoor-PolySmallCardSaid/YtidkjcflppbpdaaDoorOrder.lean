/- The walks of poly.Order, Irreducible. -/
import Derived.Test.YtidkjcflppbpdaaDoorGcd
import Derived.Test.YtidkjcflppbpdaaDoorOrd
namespace Go.Proofs.YtidkjcflppbpdaaDoor
open Go Go.RowKit Go.Shelf

def ordV (m : Nat) : Nat := if Gf.plen m < 2 ∨ 21 < Gf.plen m ∨ m % 2 = 0 then 0 else Gf.ord m
def ordE (m : Nat) : Int := if Gf.plen m < 2 ∨ 21 < Gf.plen m then 2 else if m % 2 = 0 then 6 else 0
set_option maxRecDepth 100000 in
set_option maxHeartbeats 1000000 in
theorem order_any (m : Nat) (hm : m < 18446744073709551616) (w : World) :
    Calls Tryd.prog 23 #[.int .u64 m] w fun e w' => e = .returned (.tuple #[.int .i64 (ordV m), .int .i64 (ordE m)]) ∧ Below w.heap.size w w' := by
  have hd := degree_any m hm
  obtain ⟨pm, HPM⟩ := nm (Gf.plen m)
  have hand : bits BinOp.and IntKind.u64 (m : Int) 1 = ((m % 2 : Nat) : Int) := by
    rw [show (1 : Int) = ((1 : Nat) : Int) from rfl, u64_and_nat _ _ hm (by decide), nat_mask1]
  have hpl64 := plen_le64 hm
  rw [HPM.out] at hd hpl64
  have HD := Lib.hid hd
  clear hd
  by_cases h1 : pm < 2
  · have hv : ordV m = 0 := by unfold ordV; rw [HPM.out, if_pos (.inl h1)]
    have he : ordE m = 2 := by unfold ordE; rw [HPM.out, if_pos (.inl h1)]
    rw [hv, he]
    clear hv he
    go_enter Tryd.func23, Tryd.ntmps23
    go_wp2_with fail
    refine (HD.out _).mono ?_
    rintro e w1 ⟨rfl, hb1⟩
    go_wp2_with fail
    go_ret2
    exact ⟨rfl, hb1⟩
  · by_cases h2 : 21 < pm
    · have hv : ordV m = 0 := by unfold ordV; rw [HPM.out, if_pos (.inr (.inl h2))]
      have he : ordE m = 2 := by unfold ordE; rw [HPM.out, if_pos (.inr h2)]
      rw [hv, he]
      clear hv he
      go_enter Tryd.func23, Tryd.ntmps23
      go_wp2_with fail
      refine (HD.out _).mono ?_
      rintro e w1 ⟨rfl, hb1⟩
      go_wp2_with fail
      go_ret2
      exact ⟨rfl, hb1⟩
    · by_cases h3 : m % 2 = 0
      · have hv : ordV m = 0 := by unfold ordV; rw [HPM.out, if_pos (.inr (.inr h3))]
        have he : ordE m = 6 := by unfold ordE; rw [HPM.out, if_neg (by omega), if_pos h3]
        rw [hv, he]
        rw [h3] at hand
        clear hv he h3
        go_enter Tryd.func23, Tryd.ntmps23
        go_wp2_with fail
        refine (HD.out _).mono ?_
        rintro e w1 ⟨rfl, hb1⟩
        go_wp2_with fail
        go_ret2
        exact ⟨rfl, hb1⟩
      · have ho : m % 2 = 1 := by omega
        have hv : ordV m = Gf.ord m := by unfold ordV; rw [HPM.out, if_neg (by omega)]
        have he : ordE m = 0 := by unfold ordE; rw [HPM.out, if_neg (by omega), if_neg h3]
        rw [hv, he, ]
        rw [ho] at hand
        have hm0 : m ≠ 0 := by omega
        obtain ⟨N1, N2, N3, N4⟩ := Gf.ord_ok (m := m) (by rw [HPM.out]; omega) ho
        obtain ⟨dd, hdd⟩ : ∃ dd : Nat, pm = dd + 1 := ⟨pm - 1, by omega⟩
        have hni : (pm : Int) - 1 = (dd : Int) := by omega
        have hdl : dd ≤ 20 := by omega
        have hdl1 : 1 ≤ dd := by omega
        rw [HPM.out, hdd] at N3
        have hN : Gf.ord m ≤ 1048576 := Nat.le_trans N3 (show 2 ^ dd ≤ 2 ^ 20 from Nat.pow_le_pow_right (by decide) hdl)
        have hd1 := div_any 1 m (by decide) hm hm0
        have hd2 := div_any 2 m (by decide) hm hm0
        have e1 : Gf.pmod 1 m = 1 := Gf.xm_zero (m := m) (by rw [HPM.out]; omega)
        have e2 : Gf.pmod 2 m = Gf.xm m 1 := rfl
        rw [e1] at hd1
        rw [e2] at hd2
        have hx1 : Gf.xm m 1 < 1048576 := Nat.lt_of_lt_of_le (Gf.xm_lt hm0 1) (by rw [HPM.out, hdd]; exact show 2 ^ dd ≤ 2 ^ 20 from Nat.pow_le_pow_right (by decide) hdl)
        obtain ⟨q1, HQ1⟩ := nm (Gf.pdiv 1 m)
        obtain ⟨q2, HQ2⟩ := nm (Gf.pdiv 2 m)
        rw [HQ1.out] at hd1
        rw [HQ2.out] at hd2
        obtain ⟨N, HN⟩ := nm (Gf.ord m)
        rw [HN.out] at N1 N2 N4 hN ⊢
        have HN1 := Lib.hid N1
        have HN4 := Lib.hid N4
        have HNI := Lib.hid hni
        have HDD := Lib.hid hdd
        have HD1 := Lib.hid hd1
        have HD2 := Lib.hid hd2
        clear hv he h3 ho N1 N3 N4 hni hdd hd1 hd2 e1 e2
        go_enter Tryd.func23, Tryd.ntmps23
        go_wp2_with fail
        refine (HD.out _).mono ?_
        rintro e w1 ⟨rfl, hb1⟩
        rw [HNI.out]
        go_wp2_with fail
        refine (HD1.out _).mono ?_
        rintro e w2 ⟨rfl, hb2⟩
        have hB2 := hb1.trans (hb2.mono hb1.size)
        go_wp2_with fail
        refine (HD2.out _).mono ?_
        rintro e w3 ⟨rfl, hb3⟩
        have hB3 := hB2.trans (hb3.mono hB2.size)
        clear hb1 hb2 hB2 hb3
        go_wp2_with fail
        go_loopw [9, 11] (fun va vn wr => ∃ n : Nat, 1 ≤ n ∧ n ≤ N ∧ va = .int .u64 ((Gf.xm m n : Nat) : Int) ∧ vn = .int .i64 (n : Int) ∧ w3 = wr) (fun _ vn _ => N - (intOf vn).toNat)
        case atStart => exact ⟨1, by omega, N2, rfl, rfl, rfl⟩
        case round =>
          obtain ⟨n, hn1, hn2, rfl, rfl, rfl⟩ := hrel
          by_cases hlt : n < N
          · have hne := HN4.out n hn1 hlt
            have hsu := Gf.xm_succ hm0 n
            have hxl : Gf.plen (Gf.xm m n) ≤ dd := by
              have := Gf.plen_pmod (Gf.xpow n) hm0
              rw [HPM.out, HDD.out] at this
              show Gf.plen (Gf.pmod _ m) ≤ dd
              omega
            have hst := Gf.pmod_step (a := Gf.xm m n) hm0 (by rw [HPM.out, HDD.out]; omega)
            rw [HPM.out, HDD.out, show dd + 1 - 1 = dd from rfl] at hst
            rw [hst] at hsu
            obtain ⟨x, HX⟩ := nm (Gf.xm m n)
            rw [HX.out] at hne hsu hxl ⊢
            have hx20 : x < 1048576 := Nat.lt_of_lt_of_le (Gf.plen_le.1 hxl) (show 2 ^ dd ≤ 2 ^ 20 from Nat.pow_le_pow_right (by decide) hdl)
            have hsl := shl_one_u64 (a := x) (by omega)
            have hs21 : x <<< 1 < 2097152 := by rw [Nat.shiftLeft_eq]; omega
            have hbt := and_bit_beq (x <<< 1) dd (by omega)
            have hxx := u64_xor_nat (x <<< 1) m (by omega) hm
            have hne' : ((x : Int) == 1) = false := beq_false_of_ne (by omega)
            have HSU := Lib.hid hsu
            obtain ⟨s, HS⟩ := nm (x <<< 1)
            rw [HS.out] at hsl hs21 hbt hxx HSU
            obtain ⟨sx, HSX⟩ := nm (s ^^^ m)
            rw [HSX.out] at hxx HSU
            clear hsu hst hne
            cases hbit : s.testBit dd
            · rw [hbit] at hbt HSU
              clear hbit
              go_wp2_with fail
              go_roundw
              case rel => exact ⟨n + 1, by omega, by omega, by rw [HSU.out]; rfl, by go_num, (by first | rfl | trivial)⟩
              case measure => simp [intOf]; omega
            · rw [hbit] at hbt HSU
              clear hbit
              go_wp2_with fail
              go_roundw
              case rel => exact ⟨n + 1, by omega, by omega, by rw [HSU.out]; rfl, by go_num, (by first | rfl | trivial)⟩
              case measure => simp [intOf]; omega
          · obtain rfl : n = N := by omega
            rw [HN1.out]
            go_wp2_with fail
            go_ret2
            exact ⟨rfl, hB3⟩
/-- What Irreducible finds: the way of the program. -/
def irrL (p x : Nat) : Nat → Nat → Bool
  | 0, _ => true
  | k + 1, a => if Gf.pgcd p (Gf.pmod (Gf.pmul a a) p ^^^ x) = 1 then irrL p x k (Gf.pmod (Gf.pmul a a) p) else false
def irrB (p : Nat) : Bool := if Gf.plen p < 2 then false else irrL p (Gf.pmod 2 p) ((Gf.plen p - 1) / 2) (Gf.pmod 2 p)
set_option maxRecDepth 100000 in
set_option maxHeartbeats 1000000 in
theorem irreducible_any (p : Nat) (hp : p < 18446744073709551616) (w : World) :
    Calls Tryd.prog 19 #[.int .u64 p] w fun e w' => e = .returned (.bool (irrB p)) ∧ Below w.heap.size w w' := by
  have hd := degree_any p hp
  have hpl64 := plen_le64 hp
  have hI : irrB p = if Gf.plen p < 2 then false else irrL p (Gf.pmod 2 p) ((Gf.plen p - 1) / 2) (Gf.pmod 2 p) := rfl
  obtain ⟨pm, HPM⟩ := nm (Gf.plen p)
  rw [HPM.out] at hd hpl64 hI
  have HD := Lib.hid hd
  clear hd
  by_cases h1 : pm < 2
  · rw [if_pos h1] at hI
    rw [hI]
    clear hI
    go_enter Tryd.func19, Tryd.ntmps19
    go_wp2_with fail
    refine (HD.out _).mono ?_
    rintro e w1 ⟨rfl, hb1⟩
    go_wp2_with fail
    go_ret
    exact ⟨rfl, hb1⟩
  · rw [if_neg h1] at hI
    have hp0 : p ≠ 0 := fun e => by have := HPM.out; subst e; simp [Gf.plen] at this; omega
    obtain ⟨dd, hdd⟩ : ∃ dd : Nat, pm = dd + 1 := ⟨pm - 1, by omega⟩
    have hni : (pm : Int) - 1 = (dd : Int) := by omega
    have hdl : dd ≤ 63 := by omega
    have hdl1 : 1 ≤ dd := by omega
    have hd2 := div_any 2 p (by decide) hp hp0
    have hxl := Gf.plen_pmod 2 hp0
    rw [hdd, show dd + 1 - 1 = dd from rfl] at hI
    obtain ⟨q2, HQ2⟩ := nm (Gf.pdiv 2 p)
    obtain ⟨x, HX⟩ := nm (Gf.pmod 2 p)
    rw [HQ2.out, HX.out] at hd2
    rw [HX.out] at hI hxl
    have hx64 : x < 18446744073709551616 := lt64_of_plen (by rw [HPM.out] at hxl; omega)
    have HI := Lib.hid hI
    have HNI := Lib.hid hni
    have HD2 := Lib.hid hd2
    have HXL := Lib.hid hxl
    have hhalf : (dd : Int) / 2 = ((dd / 2 : Nat) : Int) := by omega
    obtain ⟨hf, HHF⟩ := nm (dd / 2)
    rw [HHF.out] at hhalf HI
    have hhf : hf ≤ 31 := by have := HHF.out; omega
    have HHH := Lib.hid hhalf
    clear hI hdd hni hd2 hxl h1 hhalf
    go_enter Tryd.func19, Tryd.ntmps19
    go_wp2_with fail
    refine (HD.out _).mono ?_
    rintro e w1 ⟨rfl, hb1⟩
    rw [HNI.out]
    go_wp2_with fail
    refine (HD2.out _).mono ?_
    rintro e w2 ⟨rfl, hb2⟩
    have hB2 := hb1.trans (hb2.mono hb1.size)
    clear hb1 hb2
    go_wp2_with fail
    go_loopw [7, 8] (fun va vi wr => ∃ j a : Nat, j ≤ hf ∧ va = .int .u64 (a : Int) ∧ vi = .int .i64 ((j : Int) + 1) ∧ Hid (Gf.plen a < Gf.plen p) ∧ Hid (irrB p = irrL p x (hf - j) a) ∧ Below w.heap.size w wr) (fun _ vi _ => hf + 1 - (intOf vi).toNat)
    case atStart => exact ⟨0, x, by omega, rfl, rfl, HXL, HI, hB2⟩
    case round =>
      obtain ⟨j, a, hj, rfl, rfl, hal, hat, hBr⟩ := hrel
      have hh := HHH.out
      by_cases hlt : j < hf
      · have ha64 : a < 18446744073709551616 := lt64_of_plen (by have := hal.out; rw [HPM.out] at this; omega)
        have ht := times_any a a p hp hp0 hal.out ha64
        have hpl := Gf.plen_pmod (Gf.pmul a a) hp0
        have hst : irrL p x (hf - j) a = if Gf.pgcd p (Gf.pmod (Gf.pmul a a) p ^^^ x) = 1 then irrL p x (hf - (j + 1)) (Gf.pmod (Gf.pmul a a) p) else false := by
          rw [show hf - j = (hf - (j + 1)) + 1 by omega]; rfl
        obtain ⟨a2, HA2⟩ := nm (Gf.pmod (Gf.pmul a a) p)
        rw [HA2.out] at ht hpl hst
        have ha2 : a2 < 18446744073709551616 := lt64_of_plen (by rw [HPM.out] at hpl; omega)
        have hxx := u64_xor_nat a2 x ha2 hx64
        have hxl2 : a2 ^^^ x < 18446744073709551616 := Nat.xor_lt_two_pow (n := 64) ha2 hx64
        have hg := gcd_any p (a2 ^^^ x) hp hxl2
        obtain ⟨y, HY⟩ := nm (a2 ^^^ x)
        rw [HY.out] at hxx hxl2 hg hst
        obtain ⟨gg, HG⟩ := nm (Gf.pgcd p y)
        rw [HG.out] at hg hst
        have HT := Lib.hid ht
        have HPL := Lib.hid hpl
        have HST := Lib.hid hst
        have HGG := Lib.hid hg
        have hji : (j : Int) + 1 ≤ (hf : Int) := by omega
        clear ht hpl hst hg
        go_wp2_with fail
        refine (HT.out _).mono ?_
        rintro e w3 ⟨rfl, hb3⟩
        have hB3 := hBr.trans (hb3.mono hBr.size)
        clear hBr hb3
        go_wp2_with fail
        refine (HGG.out _).mono ?_
        rintro e w4 ⟨rfl, hb4⟩
        have hB4 := hB3.trans (hb4.mono hB3.size)
        clear hB3 hb4
        by_cases hg1 : gg = 1
        · rw [if_pos hg1] at HST
          have hge : ((gg : Int) != 1) = false := by subst hg1; rfl
          have hge' : ((gg : Int) == 1) = true := by subst hg1; rfl
          clear hg1
          go_wp2_with fail
          go_roundw
          case rel => exact ⟨j + 1, a2, by omega, rfl, by go_num, HPL, Lib.hid (hat.out.trans HST.out), hB4⟩
          case measure => simp [intOf]; omega
        · rw [if_neg hg1] at HST
          have hge : ((gg : Int) == 1) = false := beq_false_of_ne (by omega)
          clear hg1
          go_wp2_with fail
          go_ret
          exact ⟨by rw [hat.out, HST.out]; rfl, hB4⟩
      · obtain rfl : j = hf := by omega
        have hji : (j : Int) < (j : Int) + 1 := by omega
        go_wp2_with fail
        go_ret
        exact ⟨by rw [hat.out, Nat.sub_self]; rfl, hBr⟩
end Go.Proofs.YtidkjcflppbpdaaDoor
