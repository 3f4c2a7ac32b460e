/- Plain laws about masks: no program in sight. -/
import Derived.Test.YtjpkldndeakkkaaDoorMskD
namespace Go.Proofs.YtjpkldndeakkkaaDoor
open Go Go.RowKit Go.Shelf

/-- The first nearest one: it is one of the numbers; none is nearer; none before it is as near. -/
theorem nearU_spec (c : Int) (l : List Int) : ∀ k, k < l.length → ∃ j, j ≤ k ∧ nearU c l k = l[j]?.getD 0 ∧ (∀ i, i ≤ k → dist c (nearU c l k) ≤ dist c (l[i]?.getD 0)) ∧ (∀ i, i < j → dist c (nearU c l k) < dist c (l[i]?.getD 0))
  | 0, _ => ⟨0, Nat.le_refl _, rfl, (fun i hi => by have e : i = 0 := (by omega); subst e; exact Int.le_refl _), (fun i hi => by omega)⟩
  | k + 1, h => by
    obtain ⟨j, h1, h2, h3, h4⟩ := nearU_spec c l k (by omega)
    unfold nearU
    by_cases hd : dist c (l[k + 1]?.getD 0) < dist c (nearU c l k)
    · rw [if_pos hd]
      refine ⟨k + 1, Nat.le_refl _, rfl, fun i hi => ?_, fun i hi => ?_⟩
      · by_cases e : i = k + 1
        · rw [e]; exact Int.le_refl _
        · have := h3 i (by omega); omega
      · have := h3 i (by omega); omega
    · rw [if_neg hd]
      refine ⟨j, by omega, h2, fun i hi => ?_, h4⟩
      by_cases e : i = k + 1
      · rw [e]; omega
      · exact h3 i (by omega)
theorem members_rise (m : Nat) : (members m).Pairwise (· < ·) := List.Pairwise.filter _ List.pairwise_lt_range
theorem ints_rise {ks : List Nat} (h : ks.Pairwise (· < ·)) {i j : Nat} (hij : i < j) (hj : j < ks.length) : (ints ks)[i]?.getD 0 < (ints ks)[j]?.getD 0 := by
  rw [ints_get, ints_get, List.getElem?_eq_getElem (show i < ks.length by omega), List.getElem?_eq_getElem hj]
  have := List.pairwise_iff_getElem.1 h i j (by omega) hj hij
  simp only [Option.getD_some]
  omega
/-- What Nearest gives of a mask that is not 0. -/
theorem near_spec {m : Nat} (hm : m < 18446744073709551616) (h0 : m ≠ 0) (c : Int) :
    ∃ j, j < (members m).length ∧ nearI m c = (ints (members m))[j]?.getD 0 ∧ 0 ≤ nearI m c ∧ nearI m c < 64 ∧
      ∀ i, i < (members m).length → dist (clip c) (nearI m c) < dist (clip c) ((ints (members m))[i]?.getD 0) ∨ (dist (clip c) (nearI m c) = dist (clip c) ((ints (members m))[i]?.getD 0) ∧ nearI m c ≤ (ints (members m))[i]?.getD 0) := by
  have hp := members_pos hm h0
  have hl := ints_length (members m)
  have e : nearI m c = nearU (clip c) (ints (members m)) ((members m).length - 1) := if_neg h0
  obtain ⟨j, h1, h2, h3, h4⟩ := nearU_spec (clip c) (ints (members m)) ((members m).length - 1) (by omega)
  rw [← e] at h2 h3 h4
  have hb := ints_bd (N := 64) (fun k (hk : k ∈ members m) => members_lt hk) j (by omega)
  refine ⟨j, by omega, h2, by omega, by omega, fun i hi => ?_⟩
  have h5 := h3 i (by omega)
  by_cases e1 : i < j
  · exact .inl (h4 i e1)
  · by_cases e2 : i = j
    · subst e2
      exact .inr ⟨by rw [h2], by rw [h2]; exact Int.le_refl _⟩
    · have := ints_rise (members_rise m) (show j < i by omega) hi
      rw [← h2] at this
      rcases Int.lt_or_eq_of_le h5 with h | h
      · exact .inl h
      · exact .inr ⟨h, by omega⟩
theorem mem_ints_has {m : Nat} (hm : m < 18446744073709551616) {i : Nat} (hi : i < (members m).length) : hasB m ((ints (members m))[i]?.getD 0) = true := by
  have hk : (members m)[i] ∈ members m := List.getElem_mem hi
  rw [ints_get, List.getElem?_eq_getElem hi, Option.getD_some]
  have h1 := members_lt hk
  have h2 := (members_mem hm).1 hk
  unfold hasB
  rw [decide_eq_true (by omega), Bool.true_and, Int.toNat_natCast]
  exact h2
theorem has_mem_ints {m : Nat} {c : Int} (hm : m < 18446744073709551616) (h : hasB m c = true) : ∃ i, i < (members m).length ∧ (ints (members m))[i]?.getD 0 = c := by
  unfold hasB at h
  rw [Bool.and_eq_true] at h
  have h1 := of_decide_eq_true h.1
  have hk := (members_mem hm).2 h.2
  obtain ⟨i, hi, he⟩ := List.mem_iff_getElem.1 hk
  refine ⟨i, hi, ?_⟩
  rw [ints_get, List.getElem?_eq_getElem hi, he, Option.getD_some]
  omega
theorem dist_zero {c : Int} : dist c c = 0 := by unfold dist; omega
/-- A member is nearest to itself. -/
theorem near_self {m : Nat} (hm : m < 18446744073709551616) (c : Int) (h : hasB m c = true) : nearI m c = c := by
  have h0 : m ≠ 0 := by
    intro e; subst e
    unfold hasB at h; rw [Nat.zero_testBit, Bool.and_false] at h; cases h
  obtain ⟨i, hi, he⟩ := has_mem_ints hm h
  obtain ⟨j, hj, h1, h2, h3, h4⟩ := near_spec hm h0 c
  have := h4 i hi
  have hb := ints_bd (N := 64) (fun k (hk : k ∈ members m) => members_lt hk) i (by rw [ints_length]; exact hi)
  have hc : clip c = c := by unfold clip; omega
  rw [he] at this hb
  rw [hc, dist_zero] at this
  have hd : 0 ≤ dist c (nearI m c) := by unfold dist; omega
  have : dist c (nearI m c) = 0 := by omega
  unfold dist at this
  omega
theorem near_low {m : Nat} (hm : m < 18446744073709551616) (h0 : m ≠ 0) {c : Int} (hc : c ≤ 0) : nearI m c = (ints (members m))[0]?.getD 0 := by
  have hp := members_pos hm h0
  obtain ⟨j, hj, h1, h2, h3, h4⟩ := near_spec hm h0 c
  have h5 := h4 0 hp
  have hb := ints_bd (N := 64) (fun k (hk : k ∈ members m) => members_lt hk) 0 (by rw [ints_length]; exact hp)
  by_cases e : j = 0
  · rw [h1, e]
  · have := ints_rise (members_rise m) (show 0 < j by omega) hj
    rw [← h1] at this
    unfold dist clip at h5
    omega
theorem near_high {m : Nat} (hm : m < 18446744073709551616) (h0 : m ≠ 0) {c : Int} (hc : 63 ≤ c) : nearI m c = (ints (members m))[(members m).length - 1]?.getD 0 := by
  have hp := members_pos hm h0
  obtain ⟨j, hj, h1, h2, h3, h4⟩ := near_spec hm h0 c
  have h5 := h4 ((members m).length - 1) (by omega)
  have hb := ints_bd (N := 64) (fun k (hk : k ∈ members m) => members_lt hk) ((members m).length - 1) (by rw [ints_length]; omega)
  by_cases e : j = (members m).length - 1
  · rw [h1, e]
  · have := ints_rise (members_rise m) (show j < (members m).length - 1 by omega) (by omega)
    rw [← h1] at this
    unfold dist clip at h5
    omega
theorem near_clip (m : Nat) (c : Int) : nearI m (min (max c (-100)) 200) = nearI m c := by
  unfold nearI
  rw [show clip (min (max c (-100)) 200) = clip c by unfold clip; omega]
/-- Nothing is nearer than the nearest, and nothing as near is less: at the place itself. -/
theorem near_best {m : Nat} (hm : m < 18446744073709551616) (h0 : m ≠ 0) (c : Int) {i : Nat} (hi : i < (members m).length) :
    dist c (nearI m c) < dist c ((ints (members m))[i]?.getD 0) ∨ (dist c (nearI m c) = dist c ((ints (members m))[i]?.getD 0) ∧ nearI m c ≤ (ints (members m))[i]?.getD 0) := by
  obtain ⟨j, hj, h1, h2, h3, h4⟩ := near_spec hm h0 c
  have h5 := h4 i hi
  have hb := ints_bd (N := 64) (fun k (hk : k ∈ members m) => members_lt hk) i (by rw [ints_length]; exact hi)
  unfold dist clip at h5
  unfold dist
  omega
end Go.Proofs.YtjpkldndeakkkaaDoor
