/- The reference of polynomials: the walks of Number, number, Product, Mul, Div, Gcd, MulMod, Reverse. -/
import Derived.Test.YtidkjcflppbpdaaDoorRefB
import Derived.Test.YtidkjcflppbpdaaDoorGcd
import Derived.Test.YtidkjcflppbpdaaDoorOrd
namespace Go.Proofs.YtidkjcflppbpdaaDoor
open Go Go.RowKit Go.Shelf

theorem mod_bit (P i : Nat) : P % 2 ^ (i + 1) = P % 2 ^ i + 2 ^ i * (P.testBit i).toNat := by
  rw [Nat.mod_pow_succ, Nat.toNat_testBit]

set_option maxHeartbeats 1000000 in
theorem rnumber_fit (P : Nat) (hP : Gf.plen P ≤ 64) (v : Value) (w : World) (hv : Reads .i64 w v (coeffs P)) :
    Calls Tryd.prog 46 #[v] w fun e w' => e = .returned (.tuple #[.int .u64 P, .bool true]) ∧ w = w' := by
  have hPl : P % 2 ^ Gf.plen P = P := Nat.mod_eq_of_lt (Gf.lt_two_plen P)
  obtain ⟨a, cap, rfl, hlc, hcm, hcs⟩ := hv
  have hget := fun i (h : i < Gf.plen P) => bitsN_get P (Gf.plen P) i h
  unfold coeffs at hcs
  rw [coeffs_length] at hlc
  rw [coeffs_length]
  rw [bitsN_length] at hcs
  obtain ⟨L, HL⟩ := nm (Gf.plen P)
  rw [HL.out] at hP hPl hlc hcs hget ⊢
  have HG := Lib.hid hget
  have HPL := Lib.hid hPl
  clear hget hPl
  go_enter Tryd.func46, Tryd.ntmps46
  go_wp2
  go_loop [4, 5] (fun vn vi => ∃ i : Nat, i ≤ L ∧ vi = .int .i64 (i : Int) ∧ vn = .int .u64 ((P % 2 ^ i : Nat) : Int)) (fun _ vi => L - (intOf vi).toNat)
  case atStart => exact ⟨0, Nat.zero_le _, rfl, by rw [Nat.pow_zero, Nat.mod_one]; rfl⟩
  case round =>
    obtain ⟨i, hi, rfl, rfl⟩ := hrel
    by_cases hlt : i < L
    · obtain ⟨b, off, rfl, hcell⟩ := hcs.resolve_left (fun h => by omega)
      have hc := hcell i hlt
      rw [HG.out i hlt] at hc
      have hs := mod_bit P i
      have hm : P % 2 ^ i < 2 ^ i := Nat.mod_lt _ (Nat.two_pow_pos i)
      have hp2 := two_pow_lt (m := i) (by omega)
      have hp63 : 2 ^ i ≤ 9223372036854775808 := show 2 ^ i ≤ 2 ^ 63 from Nat.pow_le_pow_right (by decide) (by omega)
      have hsh := wrap_shl_one (m := i) (by omega)
      rw [Nat.one_shiftLeft] at hsh
      obtain ⟨x, HX⟩ := nm (P % 2 ^ i)
      obtain ⟨y, HY⟩ := nm (P % 2 ^ (i + 1))
      obtain ⟨t, HT⟩ := nm (2 ^ i)
      rw [HX.out] at hs hm ⊢
      rw [HY.out] at hs
      rw [HT.out] at hs hm hp2 hp63 hsh
      cases hb : P.testBit i
      · rw [hb] at hc hs
        have HS := Lib.hid hs
        clear hs hcell hcs hb
        go_wp2
        go_round
        case rel => exact ⟨i + 1, by omega, by go_num, by rw [HY.out, HS.out]; rfl⟩
        case measure => simp [intOf]; omega
      · rw [hb] at hc hs
        have HS := Lib.hid hs
        clear hs hcell hcs hb
        go_wp2
        go_round
        case rel => exact ⟨i + 1, by omega, by go_num, by rw [HY.out, HS.out]; simp⟩
        case measure => simp [intOf]; omega
    · obtain rfl : i = L := by omega
      have hp := HPL.out
      rw [hp]
      clear hp hcs
      go_wp2
      go_ret2
      exact ⟨rfl, rfl⟩

set_option maxHeartbeats 1000000 in
theorem rnumber_long (P : Nat) (hP : 64 < Gf.plen P) (v : Value) (w : World) (hv : Reads .i64 w v (coeffs P)) :
    Calls Tryd.prog 46 #[v] w fun e w' => e = .returned (.tuple #[.int .u64 0, .bool false]) ∧ w = w' := by
  obtain ⟨a, cap, rfl, hlc, hcm, hcs⟩ := hv
  have hget := fun i (h : i < Gf.plen P) => bitsN_get P (Gf.plen P) i h
  unfold coeffs at hcs
  rw [coeffs_length] at hlc
  rw [coeffs_length]
  rw [bitsN_length] at hcs
  obtain ⟨L, HL⟩ := nm (Gf.plen P)
  rw [HL.out] at hP hlc hcs hget ⊢
  have HG := Lib.hid hget
  clear hget
  go_enter Tryd.func46, Tryd.ntmps46
  go_wp2
  go_loop [4, 5] (fun vn vi => ∃ i : Nat, i ≤ 64 ∧ vi = .int .i64 (i : Int) ∧ vn = .int .u64 ((P % 2 ^ i : Nat) : Int)) (fun _ vi => 64 - (intOf vi).toNat)
  case atStart => exact ⟨0, Nat.zero_le _, rfl, by rw [Nat.pow_zero, Nat.mod_one]; rfl⟩
  case round =>
    obtain ⟨i, hi, rfl, rfl⟩ := hrel
    have hil : i < L := by omega
    by_cases hlt : i < 64
    · obtain ⟨b, off, rfl, hcell⟩ := hcs.resolve_left (fun h => by omega)
      have hc := hcell i hil
      rw [HG.out i hil] at hc
      have hs := mod_bit P i
      have hm : P % 2 ^ i < 2 ^ i := Nat.mod_lt _ (Nat.two_pow_pos i)
      have hp2 := two_pow_lt (m := i) (by omega)
      have hp63 : 2 ^ i ≤ 9223372036854775808 := show 2 ^ i ≤ 2 ^ 63 from Nat.pow_le_pow_right (by decide) (by omega)
      have hsh := wrap_shl_one (m := i) (by omega)
      rw [Nat.one_shiftLeft] at hsh
      obtain ⟨x, HX⟩ := nm (P % 2 ^ i)
      obtain ⟨y, HY⟩ := nm (P % 2 ^ (i + 1))
      obtain ⟨t, HT⟩ := nm (2 ^ i)
      rw [HX.out] at hs hm ⊢
      rw [HY.out] at hs
      rw [HT.out] at hs hm hp2 hp63 hsh
      cases hb : P.testBit i
      · rw [hb] at hc hs
        have HS := Lib.hid hs
        clear hs hcell hcs hb
        go_wp2
        go_round
        case rel => exact ⟨i + 1, by omega, by go_num, by rw [HY.out, HS.out]; rfl⟩
        case measure => simp [intOf]; omega
      · rw [hb] at hc hs
        have HS := Lib.hid hs
        clear hs hcell hcs hb
        go_wp2
        go_round
        case rel => exact ⟨i + 1, by omega, by go_num, by rw [HY.out, HS.out]; simp⟩
        case measure => simp [intOf]; omega
    · clear hcs
      go_wp2
      go_ret2
      exact ⟨rfl, rfl⟩
/-- What fits. -/
def numV (P : Nat) : Nat := if Gf.plen P ≤ 64 then P else 0
theorem rnum_any (P : Nat) (v : Value) (w : World) (hv : Reads .i64 w v (coeffs P)) :
    Calls Tryd.prog 49 #[v] w fun e w' => e = .returned (.int .u64 (numV P)) ∧ w = w' := by
  by_cases h : Gf.plen P ≤ 64
  · have hn : numV P = P := if_pos h
    rw [hn]
    have c := rnumber_fit P h v w hv
    clear hn h hv
    go_enter Tryd.func49, Tryd.ntmps49
    go_wp2_with fail
    refine c.mono ?_
    rintro e w1 ⟨rfl, rfl⟩
    go_wp2_with fail
    go_ret
    exact ⟨rfl, rfl⟩
  · have hn : numV P = 0 := if_neg h
    rw [hn]
    have c := rnumber_long P (by omega) v w hv
    clear hn h hv
    go_enter Tryd.func49, Tryd.ntmps49
    go_wp2_with fail
    refine c.mono ?_
    rintro e w1 ⟨rfl, rfl⟩
    go_wp2_with fail
    go_ret
    exact ⟨rfl, rfl⟩

theorem plen_pmulN_le (A B i : Nat) : Gf.plen (Gf.pmulN A B i) ≤ Gf.plen A + i := by
  by_cases hA : A = 0
  · subst hA; rw [Gf.pmulN_zero_left]; simp [Gf.plen_zero]
  · have := Gf.plen_le.2 (Gf.pmulN_lt (b := B) hA i)
    omega

set_option maxRecDepth 100000 in
set_option maxHeartbeats 1000000 in
theorem rprod_any (A B : Nat) (va vb : Value) (w : World) (ha : Reads .i64 w va (coeffs A)) (hb : Reads .i64 w vb (coeffs B)) (hA : Gf.plen A < 1000000) (hB : Gf.plen B < 1000000) :
    Calls Tryd.prog 47 #[va, vb] w fun e w' => ∃ v, e = .returned v ∧ Reads .i64 w' v (coeffs (Gf.pmul A B)) ∧ Below w.heap.size w w' := by
  have hb0 := hb
  obtain ⟨ab, cb, rfl, hlb, hmb, hcsb⟩ := hb
  have hget := fun i (h : i < Gf.plen B) => bitsN_get B (Gf.plen B) i h
  have hend : Gf.pmul A B = Gf.pmulN A B (Gf.plen B) := rfl
  unfold coeffs at hcsb
  rw [coeffs_length] at hlb
  rw [coeffs_length]
  rw [bitsN_length] at hcsb
  obtain ⟨lb, HLB⟩ := nm (Gf.plen B)
  rw [HLB.out] at hB hlb hcsb hget hend ⊢
  have HG := Lib.hid hget
  have HE := Lib.hid hend
  clear hget hend hb0
  go_enter Tryd.func47, Tryd.ntmps47
  go_wp2
  go_loopw [5, 6] (fun vo vi wr => ∃ i : Nat, i ≤ lb ∧ vi = .int .i64 (i : Int) ∧ Reads .i64 wr vo (coeffs (Gf.pmulN A B i)) ∧ Below w.heap.size w wr)
    (fun _ vi _ => lb - (intOf vi).toNat)
  case atStart => exact ⟨0, Nat.zero_le _, rfl, ⟨none, 0, rfl, by simp [coeffs_zero, Gf.pmulN], by decide, .inl rfl⟩, Below.refl _ _⟩
  case round =>
    obtain ⟨i, hi, rfl, hro, hBr⟩ := hrel
    by_cases hlt : i < lb
    · obtain ⟨b, off, rfl, hcell⟩ := hcsb.resolve_left (fun h => by omega)
      have hc := cell_keep hBr (hcell i hlt) (cell_lt (hcell i hlt))
      rw [HG.out i hlt] at hc
      have hs : Gf.pmulN A B (i + 1) = Gf.pmulN A B i ^^^ (if B.testBit i then A <<< i else 0) := rfl
      have hpl := plen_pmulN_le A B i
      clear hcell hcsb
      cases hbt : B.testBit i
      · rw [hbt] at hc hs
        simp only [Bool.false_eq_true, if_false, Nat.xor_zero] at hs
        have HS := Lib.hid hs
        clear hs hbt
        go_wp2_with fail
        go_roundw
        case rel => exact ⟨i + 1, by omega, by go_num, by rw [HS.out]; exact hro, hBr⟩
        case measure => simp [intOf]; omega
      · rw [hbt] at hc hs
        simp only [if_true] at hs
        have HS := Lib.hid hs
        have HR := Lib.hid hro
        clear hs hbt hro
        go_wp2_with fail
        refine (rsum_any (Gf.pmulN A B i) A i _ _ _ HR.out (ha.keep hBr (Nat.le_refl _)) (by omega) (by omega)).mono ?_
        rintro e w1 ⟨v1, rfl, hr1, hb1⟩
        have hB1 := hBr.trans (hb1.mono hBr.size)
        go_wp2_with fail
        go_roundw
        case rel => exact ⟨i + 1, by omega, by go_num, by rw [HS.out]; exact hr1, hB1⟩
        case measure => simp [intOf]; omega
    · obtain rfl : i = lb := by omega
      clear hcsb
      go_wp2_with fail
      go_ret
      exact ⟨_, rfl, by rw [HE.out]; exact hro, hBr⟩

theorem plen_pmul_le' (A B : Nat) : Gf.plen (Gf.pmul A B) ≤ Gf.plen A + Gf.plen B := plen_pmulN_le A B _

theorem mul_fit {a b : Nat} (h : Gf.plen (Gf.pmul a b) ≤ 64) : mulV a b = Gf.pmul a b ∧ mulE a b = 0 := by
  unfold mulV mulE
  by_cases h0 : a = 0 ∨ b = 0
  · rw [if_pos h0, if_pos h0]
    refine ⟨?_, rfl⟩
    rcases h0 with rfl | rfl
    · rw [Gf.pmul_zero_left]
    · rw [Gf.pmul_zero_right]
  · have hl := Gf.plen_pmul (a := a) (b := b) (fun e => h0 (.inl e)) (fun e => h0 (.inr e))
    rw [if_neg h0, if_neg h0, if_neg (by omega), if_neg (by omega)]
    exact ⟨rfl, rfl⟩
theorem mul_long {a b : Nat} (h : 64 < Gf.plen (Gf.pmul a b)) : mulV a b = 0 ∧ mulE a b = 3 := by
  unfold mulV mulE
  have h0 : ¬ (a = 0 ∨ b = 0) := by
    rintro (rfl | rfl)
    · rw [Gf.pmul_zero_left, Gf.plen_zero] at h; omega
    · rw [Gf.pmul_zero_right, Gf.plen_zero] at h; omega
  have hl := Gf.plen_pmul (a := a) (b := b) (fun e => h0 (.inl e)) (fun e => h0 (.inr e))
  rw [if_neg h0, if_neg h0, if_pos (by omega), if_pos (by omega)]
  exact ⟨rfl, rfl⟩

set_option maxRecDepth 100000 in
set_option maxHeartbeats 1000000 in
theorem rmul_fit (a b : Nat) (hf : Gf.plen (Gf.pmul a b) ≤ 64) (ha : a < 18446744073709551616) (hb : b < 18446744073709551616) (w : World) :
    Calls Tryd.prog 33 #[.int .u64 a, .int .u64 b] w fun e w' => e = .returned (.tuple #[.int .u64 (mulV a b), .int .i64 (mulE a b)]) ∧ Below w.heap.size w w' := by
  obtain ⟨e1, e2⟩ := mul_fit hf
  rw [e1, e2]
  clear e1 e2
  have la := plen_le64 ha
  have lb := plen_le64 hb
  go_enter Tryd.func33, Tryd.ntmps33
  go_wp2_with fail
  refine (of_any a ha _).mono ?_
  rintro e w1 ⟨v1, rfl, hr1, hb1⟩
  have hB1 := hb1
  have R1 := Lib.hid hr1
  clear hb1 hr1
  go_wp2_with fail
  refine (of_any b hb _).mono ?_
  rintro e w2 ⟨v2, rfl, hr2, hb2⟩
  have hB2 := hB1.trans (hb2.mono hB1.size)
  have R1' := Lib.hid (R1.out.keep hb2 (Nat.le_refl _))
  have R2 := Lib.hid hr2
  clear hb2 hr2 R1 hB1
  go_wp2_with fail
  refine (rprod_any a b _ _ _ R1'.out R2.out (by omega) (by omega)).mono ?_
  rintro e w3 ⟨v3, rfl, hr3, hb3⟩
  have hB3 := hB2.trans (hb3.mono hB2.size)
  have R3 := Lib.hid hr3
  clear hb3 hr3 R1' R2 hB2
  go_wp2_with fail
  refine (rnumber_fit _ hf _ _ R3.out).mono ?_
  rintro e w4 ⟨rfl, rfl⟩
  go_wp2_with fail
  go_ret2
  exact ⟨rfl, hB3⟩

set_option maxRecDepth 100000 in
set_option maxHeartbeats 1000000 in
theorem rmul_long (a b : Nat) (hf : 64 < Gf.plen (Gf.pmul a b)) (ha : a < 18446744073709551616) (hb : b < 18446744073709551616) (w : World) :
    Calls Tryd.prog 33 #[.int .u64 a, .int .u64 b] w fun e w' => e = .returned (.tuple #[.int .u64 (mulV a b), .int .i64 (mulE a b)]) ∧ Below w.heap.size w w' := by
  obtain ⟨e1, e2⟩ := mul_long hf
  rw [e1, e2]
  clear e1 e2
  have la := plen_le64 ha
  have lb := plen_le64 hb
  go_enter Tryd.func33, Tryd.ntmps33
  go_wp2_with fail
  refine (of_any a ha _).mono ?_
  rintro e w1 ⟨v1, rfl, hr1, hb1⟩
  have hB1 := hb1
  have R1 := Lib.hid hr1
  clear hb1 hr1
  go_wp2_with fail
  refine (of_any b hb _).mono ?_
  rintro e w2 ⟨v2, rfl, hr2, hb2⟩
  have hB2 := hB1.trans (hb2.mono hB1.size)
  have R1' := Lib.hid (R1.out.keep hb2 (Nat.le_refl _))
  have R2 := Lib.hid hr2
  clear hb2 hr2 R1 hB1
  go_wp2_with fail
  refine (rprod_any a b _ _ _ R1'.out R2.out (by omega) (by omega)).mono ?_
  rintro e w3 ⟨v3, rfl, hr3, hb3⟩
  have hB3 := hB2.trans (hb3.mono hB2.size)
  have R3 := Lib.hid hr3
  clear hb3 hr3 R1' R2 hB2
  go_wp2_with fail
  refine (rnumber_long _ hf _ _ R3.out).mono ?_
  rintro e w4 ⟨rfl, rfl⟩
  go_wp2_with fail
  go_ret2
  exact ⟨rfl, hB3⟩

theorem rmul_any (a b : Nat) (ha : a < 18446744073709551616) (hb : b < 18446744073709551616) (w : World) :
    Calls Tryd.prog 33 #[.int .u64 a, .int .u64 b] w fun e w' => e = .returned (.tuple #[.int .u64 (mulV a b), .int .i64 (mulE a b)]) ∧ Below w.heap.size w w' :=
  if hf : Gf.plen (Gf.pmul a b) ≤ 64 then rmul_fit a b hf ha hb w else rmul_long a b (by omega) ha hb w

theorem rdiv_zero (a : Nat) (w : World) :
    Calls Tryd.prog 34 #[.int .u64 a, .int .u64 0] w fun e w' => e = .returned (.tuple #[.int .u64 0, .int .u64 0, .int .i64 2]) ∧ w = w' := by
  go_enter Tryd.func34, Tryd.ntmps34
  go_wp2_with fail
  go_ret3
  exact ⟨rfl, rfl⟩
theorem numV_fit {P : Nat} (h : Gf.plen P ≤ 64) : numV P = P := if_pos h
theorem plen_pdiv_le (a : Nat) {b : Nat} (hb : b ≠ 0) : Gf.plen (Gf.pdiv a b) ≤ Gf.plen a := by
  have e := Gf.pdiv_pmod a hb
  by_cases hq : Gf.pdiv a b = 0
  · rw [hq]; simp [Gf.plen_zero]
  · have l := Gf.plen_pmul hq hb
    have p1 := Gf.plen_pos hq
    have p2 := Gf.plen_pos hb
    have hr := Gf.plen_pmod a hb
    have := Gf.plen_xor_left (a := Gf.pmul (Gf.pdiv a b) b) (b := Gf.pmod a b) (by omega)
    rw [← e] at this
    omega

set_option maxRecDepth 100000 in
set_option maxHeartbeats 1000000 in
theorem rdiv_any (a b : Nat) (ha : a < 18446744073709551616) (hb : b < 18446744073709551616) (hb0 : b ≠ 0) (w : World) :
    Calls Tryd.prog 34 #[.int .u64 a, .int .u64 b] w fun e w' => e = .returned (.tuple #[.int .u64 (Gf.pdiv a b), .int .u64 (Gf.pmod a b), .int .i64 0]) ∧ Below w.heap.size w w' := by
  have la := plen_le64 ha
  have lb := plen_le64 hb
  have n1 := numV_fit (P := Gf.pdiv a b) (by have := plen_pdiv_le a hb0; omega)
  have n2 := numV_fit (P := Gf.pmod a b) (by have := Gf.plen_pmod a hb0; omega)
  have N1 := Lib.hid n1
  have N2 := Lib.hid n2
  clear n1 n2
  have hbz : ((b : Int) == 0) = false := by simpa using hb0
  go_enter Tryd.func34, Tryd.ntmps34
  go_wp2_with fail
  refine (of_any a ha _).mono ?_
  rintro e w1 ⟨v1, rfl, hr1, hb1⟩
  have hB1 := hb1
  have R1 := Lib.hid hr1
  clear hb1 hr1
  go_wp2_with fail
  refine (of_any b hb _).mono ?_
  rintro e w2 ⟨v2, rfl, hr2, hb2⟩
  have hB2 := hB1.trans (hb2.mono hB1.size)
  have R1' := Lib.hid (R1.out.keep hb2 (Nat.le_refl _))
  have R2 := Lib.hid hr2
  clear hb2 hr2 R1 hB1
  go_wp2_with fail
  refine (divide_any a b _ _ _ R1'.out R2.out hb0 (by omega)).mono ?_
  rintro e w3 ⟨vq, vr, rfl, hrq, hrr, hb3⟩
  have hB3 := hB2.trans (hb3.mono hB2.size)
  have RQ := Lib.hid hrq
  have RR := Lib.hid hrr
  clear hb3 hrq hrr R1' R2 hB2
  go_wp2_with fail
  refine (rnum_any _ _ _ RQ.out).mono ?_
  rintro e w4 ⟨rfl, rfl⟩
  rw [N1.out]
  go_wp2_with fail
  refine (rnum_any _ _ _ RR.out).mono ?_
  rintro e w4 ⟨rfl, rfl⟩
  rw [N2.out]
  go_wp2_with fail
  go_ret3
  exact ⟨rfl, hB3⟩

set_option maxRecDepth 100000 in
set_option maxHeartbeats 1000000 in
theorem rgcdF_any (f : Nat) : ∀ (a b : Nat), a < 18446744073709551616 → b < 18446744073709551616 → Gf.plen b ≤ f → ∀ (w : World),
    Calls Tryd.prog 36 #[.int .u64 a, .int .u64 b] w fun e w' => e = .returned (.int .u64 (Gf.pgcd a b)) ∧ Below w.heap.size w w' := by
  induction f with
  | zero =>
    intro a b ha hb hf w
    obtain rfl : b = 0 := Gf.plen_eq_zero.1 (by omega)
    clear hf hb
    have hg : Gf.pgcd a 0 = a := Gf.pgcd_zero a
    rw [hg]
    clear hg
    go_enter Tryd.func36, Tryd.ntmps36
    go_wp2_with fail
    go_ret
    exact ⟨rfl, Below.refl _ _⟩
  | succ f ih =>
    intro a b ha hb hf w
    by_cases hb0 : b = 0
    · subst hb0
      clear hf hb
      have hg : Gf.pgcd a 0 = a := Gf.pgcd_zero a
      rw [hg]
      clear hg
      go_enter Tryd.func36, Tryd.ntmps36
      go_wp2_with fail
      go_ret
      exact ⟨rfl, Below.refl _ _⟩
    · have la := plen_le64 ha
      have lb := plen_le64 hb
      have hpm := Gf.plen_pmod a hb0
      have hg := Gf.pgcd_step a hb0
      have n2 := numV_fit (P := Gf.pmod a b) (by omega)
      have c := ih b (Gf.pmod a b) hb (lt64_of_plen (by omega)) (by omega)
      rw [hg]
      have N2 := Lib.hid n2
      have CC := Lib.hid c
      clear n2 hg c ih
      have hbz : ((b : Int) == 0) = false := by simpa using hb0
      go_enter Tryd.func36, Tryd.ntmps36
      go_wp2_with fail
      refine (of_any a ha _).mono ?_
      rintro e w1 ⟨v1, rfl, hr1, hb1⟩
      have hB1 := hb1
      have R1 := Lib.hid hr1
      clear hb1 hr1
      go_wp2_with fail
      refine (of_any b hb _).mono ?_
      rintro e w2 ⟨v2, rfl, hr2, hb2⟩
      have hB2 := hB1.trans (hb2.mono hB1.size)
      have R1' := Lib.hid (R1.out.keep hb2 (Nat.le_refl _))
      have R2 := Lib.hid hr2
      clear hb2 hr2 R1 hB1
      go_wp2_with fail
      refine (divide_any a b _ _ _ R1'.out R2.out hb0 (by omega)).mono ?_
      rintro e w3 ⟨vq, vr, rfl, hrq, hrr, hb3⟩
      have hB3 := hB2.trans (hb3.mono hB2.size)
      have RR := Lib.hid hrr
      clear hb3 hrq hrr R1' R2 hB2
      go_wp2_with fail
      refine (rnum_any _ _ _ RR.out).mono ?_
      rintro e w4 ⟨rfl, rfl⟩
      rw [N2.out]
      go_wp2_with fail
      refine (CC.out _).mono ?_
      rintro e w4 ⟨rfl, hb4⟩
      go_wp2_with fail
      go_ret
      exact ⟨rfl, hB3.trans (hb4.mono hB3.size)⟩
theorem rgcd_any (a b : Nat) (ha : a < 18446744073709551616) (hb : b < 18446744073709551616) (w : World) :
    Calls Tryd.prog 36 #[.int .u64 a, .int .u64 b] w fun e w' => e = .returned (.int .u64 (Gf.pgcd a b)) ∧ Below w.heap.size w w' :=
  rgcdF_any _ a b ha hb (Nat.le_refl _) w

theorem rmulmod_zero (a b : Nat) (w : World) :
    Calls Tryd.prog 37 #[.int .u64 a, .int .u64 b, .int .u64 0] w fun e w' => e = .returned (.tuple #[.int .u64 0, .int .i64 2]) ∧ w = w' := by
  go_enter Tryd.func37, Tryd.ntmps37
  go_wp2_with fail
  go_ret2
  exact ⟨rfl, rfl⟩

set_option maxRecDepth 100000 in
set_option maxHeartbeats 1000000 in
theorem rmulmod_any (a b m : Nat) (ha : a < 18446744073709551616) (hb : b < 18446744073709551616) (hm : m < 18446744073709551616) (hm0 : m ≠ 0) (w : World) :
    Calls Tryd.prog 37 #[.int .u64 a, .int .u64 b, .int .u64 m] w fun e w' => e = .returned (.tuple #[.int .u64 (Gf.pmod (Gf.pmul a b) m), .int .i64 0]) ∧ Below w.heap.size w w' := by
  have la := plen_le64 ha
  have lb := plen_le64 hb
  have lm := plen_le64 hm
  have n2 := numV_fit (P := Gf.pmod (Gf.pmul a b) m) (by have := Gf.plen_pmod (Gf.pmul a b) hm0; omega)
  have lp := plen_pmul_le' a b
  have N2 := Lib.hid n2
  clear n2
  have hbz : ((m : Int) == 0) = false := by simpa using hm0
  go_enter Tryd.func37, Tryd.ntmps37
  go_wp2_with fail
  refine (of_any a ha _).mono ?_
  rintro e w1 ⟨v1, rfl, hr1, hb1⟩
  have hB1 := hb1
  have R1 := Lib.hid hr1
  clear hb1 hr1
  go_wp2_with fail
  refine (of_any b hb _).mono ?_
  rintro e w2 ⟨v2, rfl, hr2, hb2⟩
  have hB2 := hB1.trans (hb2.mono hB1.size)
  have R1' := Lib.hid (R1.out.keep hb2 (Nat.le_refl _))
  have R2 := Lib.hid hr2
  clear hb2 hr2 R1 hB1
  go_wp2_with fail
  refine (rprod_any a b _ _ _ R1'.out R2.out (by omega) (by omega)).mono ?_
  rintro e w3 ⟨v3, rfl, hr3, hb3⟩
  have hB3 := hB2.trans (hb3.mono hB2.size)
  have R3 := Lib.hid hr3
  clear hb3 hr3 R1' R2 hB2
  go_wp2_with fail
  refine (of_any m hm _).mono ?_
  rintro e w4 ⟨v4, rfl, hr4, hb4⟩
  have hB4 := hB3.trans (hb4.mono hB3.size)
  have R3' := Lib.hid (R3.out.keep hb4 (Nat.le_refl _))
  have R4 := Lib.hid hr4
  clear hb4 hr4 R3 hB3
  go_wp2_with fail
  refine (divide_any (Gf.pmul a b) m _ _ _ R3'.out R4.out hm0 (by omega)).mono ?_
  rintro e w5 ⟨vq, vr, rfl, hrq, hrr, hb5⟩
  have hB5 := hB4.trans (hb5.mono hB4.size)
  have RR := Lib.hid hrr
  clear hb5 hrq hrr R3' R4 hB4
  go_wp2_with fail
  refine (rnum_any _ _ _ RR.out).mono ?_
  rintro e w6 ⟨rfl, rfl⟩
  rw [N2.out]
  go_wp2_with fail
  go_ret2
  exact ⟨rfl, hB5⟩

theorem rreverse_err (p n : Int) (hn : n < 0 ∨ 64 < n) (w : World) :
    Calls Tryd.prog 39 #[.int .u64 p, .int .i64 n] w fun e w' => e = .returned (.tuple #[.int .u64 0, .int .i64 2]) ∧ w = w' := by
  rcases hn with hn | hn
  · go_enter Tryd.func39, Tryd.ntmps39
    go_wp2_with fail
    go_ret2
    exact ⟨rfl, rfl⟩
  · have hn0 : ¬ n < 0 := by omega
    go_enter Tryd.func39, Tryd.ntmps39
    go_wp2_with fail
    go_ret2
    exact ⟨rfl, rfl⟩

set_option maxHeartbeats 1000000 in
theorem rreverse_any (p n : Nat) (hp : p < 18446744073709551616) (hn : n ≤ 64) (w : World) :
    Calls Tryd.prog 39 #[.int .u64 p, .int .i64 n] w fun e w' => e = .returned (.tuple #[.int .u64 (Gf.rev p n), .int .i64 0]) ∧ w = w' := by
  have hd1 : decide ((n : Int) < 0) = false := decide_eq_false (by omega)
  have hd2 : decide (64 < (n : Int)) = false := decide_eq_false (by omega)
  have hbit := Gf.rev_bit p n
  have hlt := Gf.rev_lt p n
  have hmod : Gf.rev p n % 2 ^ n = Gf.rev p n := Nat.mod_eq_of_lt hlt
  obtain ⟨R, HR⟩ := nm (Gf.rev p n)
  rw [HR.out] at hbit hmod ⊢
  have HB := Lib.hid hbit
  have HM := Lib.hid hmod
  clear hbit hlt hmod
  go_enter Tryd.func39, Tryd.ntmps39
  go_wp2_with fail
  go_loop [6, 7] (fun vo vi => ∃ (k : Nat), k ≤ n ∧ vi = .int .i64 (k : Int) ∧ vo = .int .u64 ((R % 2 ^ k : Nat) : Int))
    (fun _ vi => n - (intOf vi).toNat)
  case atStart => exact ⟨0, by omega, rfl, by rw [Nat.pow_zero, Nat.mod_one]; rfl⟩
  case round =>
    obtain ⟨i, hk, rfl, rfl⟩ := hrel
    by_cases hlt : i < n
    · have hbi := HB.out i
      rw [decide_eq_true hlt, Bool.true_and] at hbi
      have hs := mod_bit R i
      rw [hbi] at hs
      have hq : n - 1 - i < 64 := by omega
      have hqi : ((n : Int) - 1 - (i : Int)) = ((n - 1 - i : Nat) : Int) := by omega
      have hqn : ((n : Int) - 1 - (i : Int)).toNat = n - 1 - i := by omega
      have hr2 := rem2_u64 p (n - 1 - i) hp
      have hm : R % 2 ^ i < 2 ^ i := Nat.mod_lt _ (Nat.two_pow_pos i)
      have hp2 := two_pow_lt (m := i) (by omega)
      have hp63 : 2 ^ i ≤ 9223372036854775808 := show 2 ^ i ≤ 2 ^ 63 from Nat.pow_le_pow_right (by decide) (by omega)
      have hsh := wrap_shl_one (m := i) (by omega)
      rw [Nat.one_shiftLeft] at hsh
      obtain ⟨x, HX⟩ := nm (R % 2 ^ i)
      obtain ⟨y, HY⟩ := nm (R % 2 ^ (i + 1))
      obtain ⟨t, HT⟩ := nm (2 ^ i)
      rw [HX.out] at hs hm ⊢
      rw [HY.out] at hs
      rw [HT.out] at hs hm hp2 hp63 hsh
      clear hqi
      cases hb : p.testBit (n - 1 - i)
      · rw [hb] at hs hr2
        have HS := Lib.hid hs
        clear hs hb hbi
        go_wp2_with fail
        go_round
        case rel => exact ⟨i + 1, by omega, by go_num, by rw [HY.out, HS.out]; rfl⟩
        case measure => simp [intOf]; omega
      · rw [hb] at hs hr2
        have HS := Lib.hid hs
        clear hs hb hbi
        go_wp2_with fail
        go_round
        case rel => exact ⟨i + 1, by omega, by go_num, by rw [HY.out, HS.out]; simp⟩
        case measure => simp [intOf]; omega
    · obtain rfl : i = n := by omega
      have hp := HM.out
      rw [hp]
      clear hp
      go_wp2_with fail
      go_ret2
      exact ⟨rfl, rfl⟩
end Go.Proofs.YtidkjcflppbpdaaDoor
