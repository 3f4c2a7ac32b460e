/- Masks of CPUs: the walks of mask.All, Right, Has, Of. -/
import Derived.Test.YtjpkldndeakkkaaDoorSame
import Derived.Test.YtjpkldndeakkkaaDoorOwnV
import Derived.Test.YtjpkldndeakkkaaDoorColl
namespace Go.Proofs.YtjpkldndeakkkaaDoor
open Go Go.RowKit Go.Shelf

/-- The numbers as integers. -/
def ints (ks : List Nat) : List Int := ks.map fun (k : Nat) => (k : Int)
theorem ints_length (ks : List Nat) : (ints ks).length = ks.length := by simp [ints]
theorem ints_get (ks : List Nat) (i : Nat) : (ints ks)[i]?.getD 0 = ((ks[i]?.getD 0 : Nat) : Int) := by
  unfold ints
  rw [List.getElem?_map]
  cases ks[i]? <;> simp
theorem ints_snoc (ks : List Nat) (k : Nat) : ints (ks ++ [k]) = ints ks ++ [(k : Int)] := by simp [ints]

def allE (n : Int) : Int := if 0 ≤ n ∧ n ≤ 64 then 0 else 2
def allV (n : Int) : Nat := if 0 ≤ n ∧ n ≤ 64 then 2 ^ n.toNat - 1 else 0
def hasB (m : Nat) (c : Int) : Bool := decide (0 ≤ c ∧ c < 64) && m.testBit c.toNat
def mrightB (m : Nat) (n : Int) : Bool := decide (0 ≤ n ∧ n ≤ 64 ∧ m ≠ 0 ∧ m < 2 ^ n.toNat)

theorem allV_lt (n : Int) : allV n < 18446744073709551616 := by
  unfold allV
  split
  · have : (2 : Nat) ^ n.toNat ≤ 2 ^ 64 := Nat.pow_le_pow_right (by decide) (by omega)
    have h0 : 0 < (2 : Nat) ^ n.toNat := Nat.pow_pos (by decide)
    omega
  · decide
theorem allV_bit (n : Nat) (h : n ≤ 64) (i : Nat) : (allV (n : Int)).testBit i = decide (i < n) := by
  unfold allV
  rw [if_pos (by omega), Int.toNat_natCast, Nat.testBit_two_pow_sub_one]
theorem andnot_zero (m n : Nat) (hn : n ≤ 64) (hm : m < 18446744073709551616) : (m &&& (18446744073709551615 - (2 ^ n - 1)) = 0) ↔ m < 2 ^ n := by
  have h0 : 0 < (2 : Nat) ^ n := Nat.pow_pos (by decide)
  have h1 : (2 : Nat) ^ n ≤ 2 ^ 64 := Nat.pow_le_pow_right (by decide) hn
  have e : 18446744073709551615 - (2 ^ n - 1) = 2 ^ 64 - ((2 ^ n - 1) + 1) := by omega
  have hb : ∀ i, (m &&& (18446744073709551615 - (2 ^ n - 1))).testBit i = (m.testBit i && decide (n ≤ i)) := by
    intro i
    rw [Nat.testBit_and, e, Nat.testBit_two_pow_sub_succ (by omega), Nat.testBit_two_pow_sub_one]
    by_cases hi : i < 64
    · by_cases h : i < n
      · rw [decide_eq_true hi, decide_eq_true h, decide_eq_false (by omega)]; simp
      · rw [decide_eq_true hi, decide_eq_false h, decide_eq_true (by omega)]; simp
    · rw [Gf.bit_ge hm (n := 64) (by omega)]; simp
  constructor
  · intro h
    apply Gf.lt_of_bits
    intro i hi
    have := hb i
    rw [h, Nat.zero_testBit, decide_eq_true hi, Bool.and_true] at this
    exact this.symm
  · intro h
    apply Nat.eq_of_testBit_eq
    intro i
    rw [hb, Nat.zero_testBit]
    by_cases hi : n ≤ i
    · rw [Gf.bit_ge h hi]; rfl
    · rw [decide_eq_false hi, Bool.and_false]

set_option maxHeartbeats 1000000 in
theorem all_any (n : Int) (w : World) (hn : -9223372036854775808 ≤ n ∧ n ≤ 9223372036854775807) :
    Calls Tryd.prog 27 #[.int .i64 n] w fun e w' => e = .returned (.tuple #[.int .u64 (allV n : Nat), .int .i64 (allE n)]) ∧ w = w' := by
  by_cases h0 : n < 0
  · have e1 : allV n = 0 := by unfold allV; rw [if_neg (by omega)]
    have e2 : allE n = 2 := by unfold allE; rw [if_neg (by omega)]
    rw [e1, e2]
    have hd : decide (n < 0) = true := decide_eq_true h0
    clear e1 e2
    go_enter Tryd.func27, Tryd.ntmps27
    go_wp2_with fail
    go_ret2
    exact ⟨rfl, rfl⟩
  · by_cases h1 : 64 < n
    · have e1 : allV n = 0 := by unfold allV; rw [if_neg (by omega)]
      have e2 : allE n = 2 := by unfold allE; rw [if_neg (by omega)]
      rw [e1, e2]
      have hd : decide (n < 0) = false := decide_eq_false h0
      have hd1 : decide (64 < n) = true := decide_eq_true h1
      clear e1 e2
      go_enter Tryd.func27, Tryd.ntmps27
      go_wp2_with fail
      go_ret2
      exact ⟨rfl, rfl⟩
    · obtain ⟨k, rfl⟩ := Int.eq_ofNat_of_zero_le (show 0 ≤ n by omega)
      have hd1 : decide (64 < (k : Int)) = false := decide_eq_false h1
      have e2 : allE (k : Int) = 0 := by unfold allE; rw [if_pos (by omega)]
      have e1 : allV (k : Int) = 2 ^ k - 1 := by unfold allV; rw [if_pos (by omega), Int.toNat_natCast]
      rw [e1, e2]
      by_cases h2 : k = 64
      · subst h2
        clear e1 e2
        go_enter Tryd.func27, Tryd.ntmps27
        go_wp2_with fail
        go_ret2
        exact ⟨rfl, rfl⟩
      · have hb : ((k : Int) == 64) = false := beq_false_of_ne (by omega)
        have hk : k < 64 := by omega
        have hw := wrap_shl_one hk
        have hl := one_shl_lt hk
        have h0' : 0 < (1 <<< k : Nat) := by rw [Nat.one_shiftLeft]; exact Nat.pow_pos (by decide)
        rw [← Nat.one_shiftLeft]
        obtain ⟨q, HQ⟩ := nm (1 <<< k : Nat)
        rw [HQ.out] at hw hl h0' ⊢
        have e3 : ((q - 1 : Nat) : Int) = (q : Int) - 1 := by omega
        rw [e3]
        clear e1 e2 h0 h1 h2 e3
        go_enter Tryd.func27, Tryd.ntmps27
        go_wp2_with fail
        go_ret2
        exact ⟨rfl, rfl⟩

set_option maxHeartbeats 1000000 in
theorem has_any (m : Nat) (hm : m < 18446744073709551616) (c : Int) (hc : -9223372036854775808 ≤ c ∧ c ≤ 9223372036854775807) (w : World) :
    Calls Tryd.prog 21 #[.int .u64 m, .int .i64 c] w fun e w' => e = .returned (.bool (hasB m c)) ∧ w = w' := by
  by_cases h0 : 0 ≤ c
  · by_cases h1 : c < 64
    · obtain ⟨k, rfl⟩ := Int.eq_ofNat_of_zero_le h0
      have e : hasB m (k : Int) = m.testBit k := by unfold hasB; rw [decide_eq_true ⟨h0, h1⟩, Bool.true_and, Int.toNat_natCast]
      rw [e]
      have hk : k < 64 := by omega
      have hb := and_bit_beq m k hm
      obtain ⟨r, HR⟩ := nm (m.testBit k)
      rw [HR.out] at hb ⊢
      clear e h0 h1
      go_enter Tryd.func21, Tryd.ntmps21
      go_wp2_with fail
      go_ret
      exact ⟨rfl, rfl⟩
    · have e : hasB m c = false := by unfold hasB; rw [decide_eq_false (fun h => h1 h.2)]; rfl
      rw [e]
      have hd1 : decide (c < 64) = false := decide_eq_false h1
      have hd0 : decide (0 ≤ c) = true := decide_eq_true h0
      clear e
      go_enter Tryd.func21, Tryd.ntmps21
      go_wp2_with fail
      go_ret
      exact ⟨rfl, rfl⟩
  · have e : hasB m c = false := by unfold hasB; rw [decide_eq_false (fun h => h0 h.1)]; rfl
    rw [e]
    have hd0 : decide (0 ≤ c) = false := decide_eq_false h0
    clear e
    go_enter Tryd.func21, Tryd.ntmps21
    go_wp2_with fail
    go_ret
    exact ⟨rfl, rfl⟩

set_option maxHeartbeats 1000000 in
theorem mright_any (m : Nat) (hm : m < 18446744073709551616) (n : Int) (hn : -9223372036854775808 ≤ n ∧ n ≤ 9223372036854775807) (w : World) :
    Calls Tryd.prog 28 #[.int .u64 m, .int .i64 n] w fun e w' => e = .returned (.bool (mrightB m n)) ∧ w = w' := by
  have hal := all_any n w hn
  by_cases h0 : 0 ≤ n ∧ n ≤ 64
  · have hE : allE n = 0 := by unfold allE; rw [if_pos h0]
    have hV : allV n = 2 ^ n.toNat - 1 := by unfold allV; rw [if_pos h0]
    have hlt := allV_lt n
    have han := u64_andNot_nat m (allV n) hm hlt
    have hz := andnot_zero m n.toNat (by omega) hm
    have hR : mrightB m n = decide (m ≠ 0 ∧ m < 2 ^ n.toNat) := by unfold mrightB; rw [decide_eq_decide]; exact ⟨fun h => h.2.2, fun h => ⟨h0.1, h0.2, h⟩⟩
    rw [hR]
    rw [hE] at hal
    rw [← hV] at hz
    obtain ⟨A, HA⟩ := nm (allV n)
    rw [HA.out] at hal han hz
    obtain ⟨Z, HZ⟩ := nm (m &&& (18446744073709551615 - A))
    rw [HZ.out] at han hz
    have HAL := Lib.hid hal
    clear hal hE hV hlt hR h0
    by_cases h1 : m = 0
    · have hr : decide (m ≠ 0 ∧ m < 2 ^ n.toNat) = false := decide_eq_false (fun h => h.1 h1)
      rw [hr]
      have q1 : ((m : Int) == 0) = true := by simp [h1]
      have q2 : ((m : Int) != 0) = false := by simp [h1]
      clear hr h1 hz han
      go_enter Tryd.func28, Tryd.ntmps28
      go_wp2_with fail
      refine HAL.out.mono ?_
      rintro e w1 ⟨rfl, rfl⟩
      go_wp2_with fail
      go_ret
      exact ⟨rfl, rfl⟩
    · have q1 : ((m : Int) == 0) = false := beq_false_of_ne (by omega)
      have q2 : ((m : Int) != 0) = true := by simp only [bne, q1]; rfl
      have hr : decide (m ≠ 0 ∧ m < 2 ^ n.toNat) = decide (Z = 0) := by rw [decide_eq_decide, hz]; exact ⟨fun h => h.2, fun h => ⟨h1, h⟩⟩
      have q3 : ((Z : Int) == 0) = decide (Z = 0) := by
        by_cases h : Z = 0
        · subst h; rfl
        · rw [decide_eq_false h]; exact beq_false_of_ne (by omega)
      rw [hr]
      obtain ⟨r, HR⟩ := nm (decide (Z = 0))
      rw [HR.out] at q3 ⊢
      clear hr h1 hz
      go_enter Tryd.func28, Tryd.ntmps28
      go_wp2_with fail
      refine HAL.out.mono ?_
      rintro e w1 ⟨rfl, rfl⟩
      go_wp2_with fail
      go_ret
      exact ⟨rfl, rfl⟩
  · have hE : allE n = 2 := by unfold allE; rw [if_neg h0]
    have hR : mrightB m n = false := by unfold mrightB; exact decide_eq_false (fun h => h0 ⟨h.1, h.2.1⟩)
    rw [hR]
    rw [hE] at hal
    have HAL := Lib.hid hal
    clear hal hE hR h0
    go_enter Tryd.func28, Tryd.ntmps28
    go_wp2_with fail
    refine HAL.out.mono ?_
    rintro e w1 ⟨rfl, rfl⟩
    go_wp2_with fail
    go_ret
    exact ⟨rfl, rfl⟩
end Go.Proofs.YtjpkldndeakkkaaDoor
