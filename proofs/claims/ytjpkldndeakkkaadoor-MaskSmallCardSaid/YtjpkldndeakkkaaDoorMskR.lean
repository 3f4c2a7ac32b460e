/- Plain laws about masks made again of their members, and counted: no program in sight. -/
import Derived.Test.YtjpkldndeakkkaaDoorMskP
import Derived.Test.YtjpkldndeakkkaaDoorOwnV
namespace Go.Proofs.YtjpkldndeakkkaaDoor
open Go Go.RowKit Go.Shelf

theorem ok_ints {m : Nat} {c : Int} (h : c ∈ ints (members m)) : okC c = true := by
  unfold ints at h
  obtain ⟨k, hk, rfl⟩ := List.mem_map.1 h
  have := members_lt hk
  unfold okC
  exact decide_eq_true (by omega)
theorem orL_mem (l : List Int) (i : Nat) (h : ∀ c ∈ l, 0 ≤ c) : (orL l).testBit i = decide ((i : Int) ∈ l) := by
  rw [orL_bit, Bool.eq_iff_iff, List.any_eq_true, decide_eq_true_iff]
  constructor
  · rintro ⟨c, hc, e⟩
    have e := of_decide_eq_true e
    have := h c hc
    rwa [show (i : Int) = c by omega]
  · intro hi
    exact ⟨_, hi, decide_eq_true (by omega)⟩
theorem ints_mem' {ks : List Nat} {k : Nat} : (k : Int) ∈ ints ks ↔ k ∈ ks := by
  unfold ints
  rw [List.mem_map]
  constructor
  · rintro ⟨j, hj, e⟩
    rwa [show k = j by omega]
  · intro h
    exact ⟨k, h, rfl⟩
/-- A mask is made of its members again, in whatever order. -/
theorem of_members {m : Nat} (hm : m < 18446744073709551616) {L : List Int} (hp : L.Perm (ints (members m))) : mofV L = m ∧ mofE L = 0 := by
  have hok : L.all okC = true := List.all_eq_true.2 (fun c hc => ok_ints (hp.mem_iff.1 hc))
  unfold mofV mofE
  rw [if_pos hok, if_pos hok]
  refine ⟨Nat.eq_of_testBit_eq (fun i => ?_), rfl⟩
  rw [orL_mem L i (fun c hc => by have := ok_ints (hp.mem_iff.1 hc); unfold okC at this; have := of_decide_eq_true this; omega), Bool.eq_iff_iff, decide_eq_true_iff, hp.mem_iff, ints_mem', members_mem hm]
theorem of_both {m o : Nat} (hm : m < 18446744073709551616) (ho : o < 18446744073709551616) {L : List Int} (hp : L.Perm (ints (members m))) : mofV (L ++ ints (members o)) = m ||| o ∧ mofE (L ++ ints (members o)) = 0 := by
  have hk : ∀ c ∈ L ++ ints (members o), okC c = true := fun c hc => by
    rcases List.mem_append.1 hc with h | h
    · exact ok_ints (hp.mem_iff.1 h)
    · exact ok_ints h
  have hok : (L ++ ints (members o)).all okC = true := List.all_eq_true.2 hk
  unfold mofV mofE
  rw [if_pos hok, if_pos hok]
  refine ⟨Nat.eq_of_testBit_eq (fun i => ?_), rfl⟩
  rw [orL_mem _ i (fun c hc => by have := hk c hc; unfold okC at this; have := of_decide_eq_true this; omega), Bool.eq_iff_iff, decide_eq_true_iff, List.mem_append, hp.mem_iff, ints_mem', ints_mem', members_mem hm, members_mem ho, Nat.testBit_or, Bool.or_eq_true]
/-- Counting. -/
theorem count_or_and (m o : Nat) : ∀ k, (memL (m ||| o) k).length + (memL (m &&& o) k).length = (memL m k).length + (memL o k).length
  | 0 => rfl
  | k + 1 => by
    have ih := count_or_and m o k
    rw [memL_succ, memL_succ, memL_succ, memL_succ, Nat.testBit_or, Nat.testBit_and]
    cases m.testBit k <;> cases o.testBit k <;> simp <;> omega
theorem memL_bits {m o : Nat} : ∀ k, (∀ i, i < k → m.testBit i = o.testBit i) → memL m k = memL o k
  | 0, _ => rfl
  | k + 1, h => by
    rw [memL_succ, memL_succ, memL_bits k (fun i hi => h i (by omega)), h k (by omega)]
theorem count_all (n : Nat) : ∀ k, (memL (2 ^ n - 1) k).length = min n k
  | 0 => by simp [memL]
  | k + 1 => by
    rw [memL_succ, Nat.testBit_two_pow_sub_one]
    have ih := count_all n k
    by_cases h : k < n
    · rw [if_pos (by simpa using h), List.length_append, ih]; simp; omega
    · rw [if_neg (by simpa using h), ih]; omega
theorem not_bit {m : Nat} (hm : m < 18446744073709551616) {i : Nat} (hi : i < 64) : (18446744073709551615 - m).testBit i = !m.testBit i := by
  have := Nat.testBit_two_pow_sub_succ (n := 64) (x := m) hm i
  rw [show (2 : Nat) ^ 64 - (m + 1) = 18446744073709551615 - m by omega] at this
  rw [this, decide_eq_true hi, Bool.true_and]
theorem xor_full {m : Nat} (hm : m < 18446744073709551616) : 18446744073709551615 ^^^ m = 18446744073709551615 - m := by
  apply Nat.eq_of_testBit_eq
  intro i
  rw [Nat.testBit_xor]
  by_cases hi : i < 64
  · rw [not_bit hm hi, show (18446744073709551615 : Nat) = 2 ^ 64 - 1 from rfl, Nat.testBit_two_pow_sub_one, decide_eq_true hi, Bool.true_xor]
  · have hp : (2 : Nat) ^ 64 ≤ 2 ^ i := Nat.pow_le_pow_right (by omega) (by omega)
    rw [Nat.testBit_lt_two_pow (show (18446744073709551615 : Nat) < 2 ^ i by omega), Nat.testBit_lt_two_pow (show m < 2 ^ i by omega), Nat.testBit_lt_two_pow (show 18446744073709551615 - m < 2 ^ i by omega)]
    rfl
theorem u64_not {m : Nat} (hm : m < 18446744073709551616) : bits BinOp.xor IntKind.u64 IntKind.u64.max (m : Int) = ((18446744073709551615 - m : Nat) : Int) := by
  have h := u64_xor_nat 18446744073709551615 m (by decide) hm
  rw [xor_full hm] at h
  exact h
/-- A part of a mask and the rest of it. -/
theorem count_parts {a m : Nat} (hm : m < 18446744073709551616) : (members (a &&& m)).length + (members (a &&& (18446744073709551615 - m))).length = (members a).length := by
  have : ∀ k, k ≤ 64 → (memL (a &&& m) k).length + (memL (a &&& (18446744073709551615 - m)) k).length = (memL a k).length := by
    intro k
    induction k with
    | zero => intro _; rfl
    | succ k ih =>
      intro hk
      have ih := ih (by omega)
      rw [memL_succ, memL_succ, memL_succ, Nat.testBit_and, Nat.testBit_and, not_bit hm (by omega)]
      cases a.testBit k <;> cases m.testBit k <;> simp <;> omega
  exact this 64 (Nat.le_refl _)
theorem members_all {n : Nat} (hn : n ≤ 64) : (members (2 ^ n - 1)).length = n := by
  unfold members
  rw [count_all]; omega
theorem hasB_all {n c : Nat} (hc : c < 64) : hasB (2 ^ n - 1) (c : Int) = decide (c < n) := by
  unfold hasB
  rw [decide_eq_true (by omega), Bool.true_and, Int.toNat_natCast, Nat.testBit_two_pow_sub_one]
theorem hasB_or {m o : Nat} {c : Int} : hasB (m ||| o) c = (hasB m c || hasB o c) := by
  unfold hasB
  rw [Nat.testBit_or]
  cases decide (0 ≤ c ∧ c < 64) <;> simp
theorem hasB_not {m c : Nat} (hm : m < 18446744073709551616) (hc : c < 64) : hasB (18446744073709551615 - m) (c : Int) = !hasB m (c : Int) := by
  unfold hasB
  rw [decide_eq_true (by omega), Bool.true_and, Bool.true_and, Int.toNat_natCast, not_bit hm hc]
theorem right_full {m : Nat} (hm : m < 18446744073709551616) : mrightB m 64 = decide (m ≠ 0) := by
  unfold mrightB
  rw [decide_eq_decide]
  exact ⟨fun h => h.2.2.1, fun h => ⟨by decide, by decide, h, hm⟩⟩
theorem right_part {n m : Nat} (hn : n ≤ 64) : mrightB ((2 ^ n - 1) &&& m) (max 1 n : Nat) = decide ((2 ^ n - 1) &&& m ≠ 0) := by
  unfold mrightB
  rw [decide_eq_decide]
  refine ⟨fun h => h.2.2.1, fun h => ⟨by omega, by omega, h, ?_⟩⟩
  rw [Int.toNat_natCast]
  have h1 : (2 ^ n - 1) &&& m ≤ 2 ^ n - 1 := Nat.and_le_left
  have h2 : (2 : Nat) ^ n ≤ 2 ^ (max 1 n) := Nat.pow_le_pow_right (by omega) (by omega)
  have h3 : 0 < (2 : Nat) ^ n := Nat.two_pow_pos n
  omega
end Go.Proofs.YtjpkldndeakkkaaDoor
