/- Masks of CPUs: Next and Around go through all members; plain lists and numbers. -/
import Derived.Test.YtjpkldndeakkkaaDoorMskP
namespace Go.Proofs.YtjpkldndeakkkaaDoor
open Go Go.RowKit Go.Shelf

/-- Member number j. -/
def mat (m j : Nat) : Int := (ints (members m))[j]?.getD 0
theorem mat_bd {m j : Nat} (hj : j < (members m).length) : 0 ≤ mat m j ∧ mat m j < 64 := by
  have := ints_bd (N := 64) (fun k (hk : k ∈ members m) => members_lt hk) j (by rw [ints_length]; exact hj)
  unfold mat
  omega
theorem mat_rise {m i j : Nat} (hij : i < j) (hj : j < (members m).length) : mat m i < mat m j := ints_rise (members_rise m) hij hj
theorem next_at {m j : Nat} {c : Int} (hj : j < (members m).length) (hlow : ∀ i, i < j → mat m i < c) (hc : c ≤ mat m j) : nextI m c = mat m j ∧ nextB m c = true := by
  have hl : j < (ints (members m)).length := by rw [ints_length]; exact hj
  refine next_some (p := (ints (members m)).take j) ?_ (fun y hy => ?_) hc
  · unfold mat
    rw [← takeI_get _ _ hl]
    exact List.take_prefix _ _
  · obtain ⟨i, hi, rfl⟩ := List.mem_iff_getElem.1 hy
    rw [List.length_take] at hi
    have := hlow i (by omega)
    unfold mat at this
    rw [List.getElem?_eq_getElem (by omega)] at this
    rw [List.getElem_take]
    exact this
theorem next_over {m : Nat} {c : Int} (h : ∀ i, i < (members m).length → mat m i < c) : nextI m c = 0 ∧ nextB m c = false := by
  refine next_none (fun y hy => ?_)
  obtain ⟨i, hi, rfl⟩ := List.mem_iff_getElem.1 hy
  rw [ints_length] at hi
  have := h i hi
  unfold mat at this
  rwa [List.getElem?_eq_getElem (by rw [ints_length]; exact hi)] at this
theorem next_low {m : Nat} (hm : m < 18446744073709551616) (h0 : m ≠ 0) {c : Int} (hc : c ≤ 0) : nextI m c = mat m 0 ∧ nextB m c = true := by
  have hp := members_pos hm h0
  have := mat_bd hp
  exact next_at hp (fun i hi => by omega) (by omega)
theorem around_yes {m : Nat} (hm : m < 18446744073709551616) (h0 : m ≠ 0) (c : Int) : aroundB m c = true := by
  unfold aroundB
  rw [(next_low hm h0 (c := 0) (by omega)).2, Bool.or_true]
theorem around_first {m : Nat} (hm : m < 18446744073709551616) (h0 : m ≠ 0) (c : Int) : ∃ j, j < (members m).length ∧ aroundI m c = mat m j := by
  unfold aroundI
  by_cases h : nextB m c = true
  · rw [if_pos h]
    by_cases hall : ∀ i, i < (members m).length → mat m i < c
    · rw [(next_over hall).2] at h; cases h
    · obtain ⟨i, hi⟩ := Classical.not_forall.1 hall
      obtain ⟨hi1, hi2⟩ := Classical.not_imp.1 hi
      have hx : ∃ i, i < (members m).length ∧ c ≤ mat m i := ⟨i, hi1, by omega⟩
      clear hi hi1 hi2 hall
      have key : ∀ n, n < (members m).length → c ≤ mat m n → ∃ j, j < (members m).length ∧ nextI m c = mat m j := by
        intro n
        induction n with
        | zero => exact fun h1 h2 => ⟨0, h1, (next_at h1 (fun i hi => by omega) h2).1⟩
        | succ n ih =>
          intro h1 h2
          by_cases h3 : c ≤ mat m n
          · exact ih (by omega) h3
          · refine ⟨n + 1, h1, (next_at h1 (fun i hi => ?_) h2).1⟩
            by_cases e : i = n
            · rw [e]; omega
            · have := mat_rise (m := m) (show i < n by omega) (by omega)
              omega
      obtain ⟨n, h1, h2⟩ := hx
      exact key n h1 h2
  · rw [if_neg h]
    exact ⟨0, members_pos hm h0, (next_low hm h0 (by omega)).1⟩
theorem around_step {m j : Nat} (hm : m < 18446744073709551616) (h0 : m ≠ 0) (hj : j < (members m).length) : aroundI m (mat m j + 1) = mat m ((j + 1) % (members m).length) := by
  unfold aroundI
  by_cases h : j + 1 < (members m).length
  · have hr := mat_rise (m := m) (show j < j + 1 by omega) h
    have := next_at (m := m) (c := mat m j + 1) h (fun i hi => by
      by_cases e : i = j
      · rw [e]; omega
      · have := mat_rise (m := m) (show i < j by omega) hj
        omega) (by omega)
    rw [this.2, if_pos rfl, this.1, Nat.mod_eq_of_lt h]
  · have := next_over (m := m) (c := mat m j + 1) (fun i hi => by
      by_cases e : i = j
      · rw [e]; omega
      · have := mat_rise (m := m) (show i < j by omega) hj
        omega)
    rw [this.2, if_neg (by simp), (next_low hm h0 (c := 0) (by omega)).1, show j + 1 = (members m).length by omega, Nat.mod_self]
/-- The members seen in k steps from member number j on. -/
def seenN (m j : Nat) : Nat → Nat
  | 0 => 0
  | k + 1 => seenN m j k ||| 1 <<< (mat m ((j + k) % (members m).length)).toNat
theorem seenN_bit (m j b : Nat) : ∀ k, (seenN m j k).testBit b = true ↔ ∃ i, i < k ∧ (mat m ((j + i) % (members m).length)).toNat = b
  | 0 => by
    constructor
    · intro h; simp [seenN] at h
    · rintro ⟨i, hi, _⟩; omega
  | k + 1 => by
    unfold seenN
    rw [Nat.testBit_or, Bool.or_eq_true, seenN_bit m j b k, one_shl_bit]
    constructor
    · rintro (⟨i, hi, he⟩ | h)
      · exact ⟨i, by omega, he⟩
      · exact ⟨k, by omega, (of_decide_eq_true h).symm⟩
    · rintro ⟨i, hi, he⟩
      by_cases e : i = k
      · subst e; exact .inr (decide_eq_true he.symm)
      · exact .inl ⟨i, by omega, he⟩
theorem seenN_lt {m : Nat} (hm : m < 18446744073709551616) (h0 : m ≠ 0) (j k : Nat) : seenN m j k < 18446744073709551616 := by
  refine Gf.lt_of_bits (n := 64) (fun b hb => ?_)
  rw [Bool.eq_false_iff]
  intro h
  obtain ⟨i, _, he⟩ := (seenN_bit m j b k).1 h
  have := mat_bd (m := m) (Nat.mod_lt (j + i) (members_pos hm h0))
  omega
theorem seenN_all {m : Nat} (hm : m < 18446744073709551616) (h0 : m ≠ 0) {j : Nat} (hj : j < (members m).length) : seenN m j (members m).length = m := by
  apply Nat.eq_of_testBit_eq
  intro b
  rw [Bool.eq_iff_iff, seenN_bit]
  constructor
  · rintro ⟨i, hi, he⟩
    have hlt := Nat.mod_lt (j + i) (members_pos hm h0)
    have h1 := mem_ints_has hm hlt
    unfold hasB at h1
    rw [Bool.and_eq_true] at h1
    rw [← he]
    exact h1.2
  · intro hb
    obtain ⟨t, ht, he⟩ := List.mem_iff_getElem.1 ((members_mem hm).2 hb)
    have hme : (mat m t).toNat = b := by
      unfold mat
      rw [ints_get, List.getElem?_eq_getElem ht, he]
      rfl
    by_cases htj : j ≤ t
    · exact ⟨t - j, by omega, by rw [show j + (t - j) = t by omega, Nat.mod_eq_of_lt ht]; exact hme⟩
    · refine ⟨t + (members m).length - j, by omega, ?_⟩
      rw [show j + (t + (members m).length - j) = t + (members m).length by omega, Nat.add_mod_right, Nat.mod_eq_of_lt ht]
      exact hme
end Go.Proofs.YtjpkldndeakkkaaDoor
