/- The walk of the law CrcShifts. -/
import Derived.Test.YtomddpplhllgcaaDoorAwake
import Derived.Test.YtomddpplhllgcaaDoorRefD
namespace Go.Proofs.YtomddpplhllgcaaDoor
open Go Go.RowKit Go.Shelf

set_option maxRecDepth 100000 in
set_option maxHeartbeats 1000000 in
theorem shifts_err (a b : Nat) (n : Int) (hn : n < 0 ∨ 16777216 < n) (w : World) :
    Calls Tryd.prog 16 #[.int .u32 a, .int .u32 b, .int .i64 n] w fun e w' => e = .returned (.bool true) ∧ w = w' := by
  go_enter Tryd.func16, Tryd.ntmps16
  go_wp2_with fail
  refine (shift_err a n hn _).mono ?_
  rintro e w1 ⟨rfl, rfl⟩
  go_wp2_with fail
  refine (rshift_err a n hn _).mono ?_
  rintro e w1 ⟨rfl, rfl⟩
  go_wp2_with fail
  refine (join_err a b n hn _).mono ?_
  rintro e w1 ⟨rfl, rfl⟩
  go_wp2_with fail
  go_ret
  exact ⟨rfl, rfl⟩

set_option maxRecDepth 100000 in
set_option maxHeartbeats 1000000 in
theorem shifts_any (a b n : Nat) (ha : a < 4294967296) (hb : b < 4294967296) (hn : n ≤ 16777216) (w : World) :
    Calls Tryd.prog 16 #[.int .u32 a, .int .u32 b, .int .i64 n] w fun e w' => e = .returned (.bool true) ∧ Below w.heap.size w w' := by
  have hs := Gf.stepN_lt (8 * n) ha
  have hx := u32_xor_nat _ b hs hb
  obtain ⟨r, HR⟩ := nm (Gf.stepN (8 * n) a)
  obtain ⟨j, HJ⟩ := nm (Gf.stepN (8 * n) a ^^^ b)
  rw [HJ.out, HR.out] at hx
  go_enter Tryd.func16, Tryd.ntmps16
  go_wp2_with fail
  refine (shift_any a n ha (by omega) (by omega) _).mono ?_
  rintro e w1 ⟨rfl, hb1⟩
  rw [Int.toNat_natCast, HR.out]
  go_wp2_with fail
  refine (rshift_any a n ha hn _).mono ?_
  rintro e w2 ⟨rfl, hb2⟩
  rw [HR.out]
  have hB2 := hb1.trans (hb2.mono hb1.size)
  go_wp2_with fail
  refine (join_any a b n ha hb (by omega) (by omega) _).mono ?_
  rintro e w3 ⟨rfl, hb3⟩
  rw [Int.toNat_natCast, HJ.out]
  have hB3 := hB2.trans (hb3.mono hB2.size)
  go_wp2_with fail
  go_ret
  exact ⟨rfl, hB3⟩

/-- Shift and Join agree with their definitions. -/
theorem crcShifts_any (a : Nat) (ha : a < 4294967296) (b : Nat) (hb : b < 4294967296) (n : Int) (hn : -9223372036854775808 ≤ n ∧ n ≤ 9223372036854775807) (w : World) (hT : Tab w) :
    Calls Tryd.prog 3 #[.int .u32 a, .int .u32 b, .int .i64 n] w fun e w' => e = .returned (.bool true) ∧ Below w.heap.size w w' := by
  obtain ⟨hn1, hn2⟩ := hn
  by_cases h1 : 400 < n
  · by_cases h2 : n ≤ 16777216
    · go_enter Tryd.func3, Tryd.ntmps3
      go_wp2_with fail
      refine (awake_any _ hT).mono ?_
      rintro e w1 ⟨rfl, hb1⟩
      go_wp2_with fail
      go_ret
      exact ⟨rfl, hb1⟩
    · go_enter Tryd.func3, Tryd.ntmps3
      go_wp2_with fail
      refine (shifts_err a b n (by omega) _).mono ?_
      rintro e w1 ⟨rfl, rfl⟩
      go_wp2_with fail
      refine (awake_any _ hT).mono ?_
      rintro e w1 ⟨rfl, hb1⟩
      go_wp2_with fail
      go_ret
      exact ⟨rfl, hb1⟩
  · by_cases h0 : n < 0
    · go_enter Tryd.func3, Tryd.ntmps3
      go_wp2_with fail
      refine (shifts_err a b n (by omega) _).mono ?_
      rintro e w1 ⟨rfl, rfl⟩
      go_wp2_with fail
      refine (awake_any _ hT).mono ?_
      rintro e w1 ⟨rfl, hb1⟩
      go_wp2_with fail
      go_ret
      exact ⟨rfl, hb1⟩
    · obtain ⟨m, rfl⟩ := Int.eq_ofNat_of_zero_le (show 0 ≤ n by omega)
      go_enter Tryd.func3, Tryd.ntmps3
      go_wp2_with fail
      refine (shifts_any a b m ha hb (by omega) _).mono ?_
      rintro e w1 ⟨rfl, hb0⟩
      have hT1 := hT.keep hb0 (Nat.le_refl _)
      go_wp2_with fail
      refine (awake_any _ hT1).mono ?_
      rintro e w2 ⟨rfl, hb1⟩
      go_wp2_with fail
      go_ret
      exact ⟨rfl, hb0.trans (hb1.mono hb0.size)⟩
end Go.Proofs.YtomddpplhllgcaaDoor
