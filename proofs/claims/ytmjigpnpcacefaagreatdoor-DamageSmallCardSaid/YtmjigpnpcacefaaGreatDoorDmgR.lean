/- Plain laws about pieces of bytes, and about their ends: no program in sight. -/
import Derived.Test.YtmjigpnpcacefaaGreatDoorDmgP
namespace Go.Proofs.YtmjigpnpcacefaaGreatDoor
open Go Go.RowKit Go.Shelf

/-- Bytes with a piece twice, without a piece, with two pieces exchanged. -/
def doubleV (xs : List Nat) (f t : Nat) : List Nat := xs.take t ++ xs.drop f
def dropV (xs : List Nat) (f t : Nat) : List Nat := xs.take f ++ xs.drop t
def swapV (xs : List Nat) (f m t : Nat) : List Nat := xs.take f ++ (xs.drop m).take (t - m) ++ (xs.drop f).take (m - f) ++ xs.drop t
theorem doubleV_length (xs : List Nat) (f t : Nat) (h1 : f ≤ t) (h2 : t ≤ xs.length) : (doubleV xs f t).length = xs.length + t - f := by
  unfold doubleV; rw [List.length_append, List.length_take, List.length_drop]; omega
theorem dropV_length (xs : List Nat) (f t : Nat) (h1 : f ≤ t) (h2 : t ≤ xs.length) : (dropV xs f t).length = xs.length - (t - f) := by
  unfold dropV; rw [List.length_append, List.length_take, List.length_drop]; omega
theorem swapV_length (xs : List Nat) (f m t : Nat) (h1 : f ≤ m) (h2 : m ≤ t) (h3 : t ≤ xs.length) : (swapV xs f m t).length = xs.length := by
  unfold swapV; simp only [List.length_append, List.length_take, List.length_drop]; omega
theorem drop_one (xs : List Nat) (f t : Nat) (h1 : f ≤ t) (h2 : t ≤ xs.length) : dropV (doubleV xs f t) f t = xs := by
  unfold dropV doubleV
  have e : (xs.take t).length = t := by rw [List.length_take]; omega
  rw [List.take_append_of_le_length (by omega), List.take_take, Nat.min_eq_left h1, List.drop_append, e, Nat.sub_self, List.drop_zero, List.drop_of_length_le (by omega), List.nil_append, List.take_append_drop]
theorem drop_two (xs : List Nat) (f t : Nat) (h1 : f ≤ t) (h2 : t ≤ xs.length) : dropV (doubleV xs f t) t (2 * t - f) = xs := by
  unfold dropV doubleV
  have e : (xs.take t).length = t := by rw [List.length_take]; omega
  rw [List.take_append_of_le_length (by omega), List.take_take, Nat.min_self, List.drop_append, e, List.drop_of_length_le (by omega), List.nil_append, List.drop_drop, show f + (2 * t - f - t) = t by omega, List.take_append_drop]
theorem turnV_get (ys : List Nat) (f t p : Nat) (h : p < ys.length) : (turnV ys f t)[p]?.getD 0 = if f ≤ p ∧ p < t then ys[f + t - 1 - p]?.getD 0 else ys[p]?.getD 0 := by
  simp [turnV, h]
theorem turn_back (xs : List Nat) (f t : Nat) (h2 : t ≤ xs.length) : turnV (turnV xs f t) f t = xs := by
  apply list_ext_getD (by rw [turnV_length, turnV_length])
  intro p hp
  rw [turnV_length, turnV_length] at hp
  rw [turnV_get _ _ _ _ (by rw [turnV_length]; exact hp)]
  by_cases h : f ≤ p ∧ p < t
  · rw [if_pos h, turnV_get _ _ _ _ (by omega), if_pos (by omega), show f + t - 1 - (f + t - 1 - p) = p by omega]
  · rw [if_neg h, turnV_get _ _ _ _ hp, if_neg h]
theorem turn_short (ys : List Nat) (f t : Nat) (h : t ≤ f + 1) : turnV ys f t = ys := by
  apply list_ext_getD (turnV_length ys f t)
  intro p hp
  rw [turnV_length] at hp
  rw [turnV_get _ _ _ _ hp]
  by_cases hc : f ≤ p ∧ p < t
  · rw [if_pos hc, show f + t - 1 - p = p by omega]
  · rw [if_neg hc]
theorem cut_four (xs : List Nat) (f m t : Nat) (h1 : f ≤ m) (h2 : m ≤ t) : xs.take f ++ (xs.drop f).take (m - f) ++ (xs.drop m).take (t - m) ++ xs.drop t = xs := by
  have e1 : xs.take m = xs.take f ++ (xs.drop f).take (m - f) := by
    have := List.take_add (l := xs) (i := f) (j := m - f)
    rwa [show f + (m - f) = m by omega] at this
  have e2 : xs.take t = xs.take m ++ (xs.drop m).take (t - m) := by
    have := List.take_add (l := xs) (i := m) (j := t - m)
    rwa [show m + (t - m) = t by omega] at this
  rw [← e1, ← e2, List.take_append_drop]
theorem parts_four (A B C D : List Nat) (f m t : Nat) (ha : A.length = f) (hb : B.length = m - f) (hc : C.length = t - m) (h1 : f ≤ m) (h2 : m ≤ t) : swapV (A ++ B ++ C ++ D) f m t = A ++ C ++ B ++ D := by
  unfold swapV
  have d1 : (A ++ B ++ C ++ D).take f = A := by
    rw [List.append_assoc, List.append_assoc, List.take_left' ha]
  have d2 : (A ++ B ++ C ++ D).drop f = B ++ (C ++ D) := by
    rw [List.append_assoc, List.append_assoc, List.drop_left' ha]
  have d3 : (A ++ B ++ C ++ D).drop m = C ++ D := by
    rw [List.append_assoc, List.drop_left' (by rw [List.length_append]; omega)]
  have d4 : (A ++ B ++ C ++ D).drop t = D := by
    rw [List.drop_left' (by simp only [List.length_append]; omega)]
  rw [d1, d2, d3, d4, List.take_left' hb, List.take_left' hc]
theorem swap_back (xs : List Nat) (f m t : Nat) (h1 : f ≤ m) (h2 : m ≤ t) (h3 : t ≤ xs.length) : swapV (swapV xs f m t) f (f + t - m) t = xs := by
  have e : swapV xs f m t = xs.take f ++ (xs.drop m).take (t - m) ++ (xs.drop f).take (m - f) ++ xs.drop t := rfl
  rw [e, parts_four _ _ _ _ f (f + t - m) t (by rw [List.length_take]; omega) (by rw [List.length_take, List.length_drop]; omega) (by rw [List.length_take, List.length_drop]; omega) (by omega) (by omega)]
  exact cut_four xs f m t h1 h2

/-- Ends. -/
theorem comPre_at : ∀ (xs ys : List Nat) (j : Nat), j < comPre xs ys → xs[j]?.getD 0 = ys[j]?.getD 0
  | [], _, j, h => by simp [comPre] at h
  | _ :: _, [], j, h => by simp [comPre] at h
  | x :: xs, y :: ys, j, h => by
    unfold comPre at h
    by_cases e : x = y
    · rw [if_pos e] at h
      cases j with
      | zero => simp [e]
      | succ j => simpa using comPre_at xs ys j (by omega)
    · rw [if_neg e] at h; omega
theorem comPre_ge : ∀ (k : Nat) (xs ys : List Nat), k ≤ xs.length → k ≤ ys.length → (∀ j, j < k → xs[j]?.getD 0 = ys[j]?.getD 0) → k ≤ comPre xs ys
  | 0, _, _, _, _, _ => Nat.zero_le _
  | k + 1, [], _, h, _, _ => by simp at h
  | k + 1, _ :: _, [], _, h, _ => by simp at h
  | k + 1, x :: xs, y :: ys, h1, h2, h3 => by
    have e : x = y := by simpa using h3 0 (by omega)
    unfold comPre
    rw [if_pos e]
    have := comPre_ge k xs ys (by simpa using h1) (by simpa using h2) (fun j hj => by simpa using h3 (j + 1) (by omega))
    omega
theorem comPre_comm : ∀ xs ys : List Nat, comPre xs ys = comPre ys xs
  | [], [] => rfl
  | [], _ :: _ => rfl
  | _ :: _, [] => rfl
  | x :: xs, y :: ys => by
    unfold comPre
    by_cases e : x = y
    · rw [if_pos e, if_pos e.symm, comPre_comm xs ys]
    · rw [if_neg e, if_neg (fun h => e h.symm)]
theorem comPre_append (us vs ws : List Nat) : us.length ≤ comPre (us ++ vs) (us ++ ws) := by
  apply comPre_ge
  · simp
  · simp
  · intro j hj
    rw [List.getElem?_append_left hj, List.getElem?_append_left hj]
theorem endsN_comm (xs ys : List Nat) : endsN xs ys = endsN ys xs := comPre_comm xs ys
theorem endsM_comm (xs ys : List Nat) : endsM xs ys = endsM ys xs := by
  unfold endsM
  rw [endsN_comm xs ys, comPre_comm]
theorem ends_self (xs : List Nat) : endsN xs xs = xs.length ∧ endsM xs xs = 0 := by
  have h := comPre_append xs [] []
  rw [List.append_nil] at h
  have h2 := (comPre_le xs xs).1
  have e : endsN xs xs = xs.length := by unfold endsN; omega
  refine ⟨e, ?_⟩
  unfold endsM
  rw [e, List.drop_length]
  rfl
/-- All of the bytes without a piece is told by the ends. -/
theorem ends_drop (xs : List Nat) (f t : Nat) (h1 : f ≤ t) (h2 : t ≤ xs.length) : endsN xs (dropV xs f t) + endsM xs (dropV xs f t) = (dropV xs f t).length ∧ f ≤ endsN xs (dropV xs f t) := by
  have hf : (xs.take f).length = f := by rw [List.length_take]; omega
  have hN : f ≤ endsN xs (dropV xs f t) := by
    have h := comPre_append (xs.take f) (xs.drop f) (xs.drop t)
    rw [List.take_append_drop, hf] at h
    exact h
  have hL := dropV_length xs f t h1 h2
  have hle := (comPre_le xs (dropV xs f t)).2
  refine ⟨?_, hN⟩
  unfold endsM
  obtain ⟨n, hn⟩ : ∃ n, endsN xs (dropV xs f t) = n := ⟨_, rfl⟩
  have hle' : n ≤ (dropV xs f t).length := by rw [← hn]; exact hle
  rw [hn] at hN ⊢
  have hB : (dropV xs f t).drop n = xs.drop (t + (n - f)) := by
    unfold dropV
    rw [List.drop_append, hf, List.drop_of_length_le (by omega), List.nil_append, List.drop_drop]
  have hA : xs.drop n = (xs.drop n).take (t - f) ++ xs.drop (t + (n - f)) := by
    conv => lhs; rw [← List.take_append_drop (t - f) (xs.drop n)]
    rw [List.drop_drop, show n + (t - f) = t + (n - f) by omega]
  have hlB : (xs.drop (t + (n - f))).length = (dropV xs f t).length - n := by rw [← hB, List.length_drop]
  rw [hB, hA, List.reverse_append]
  have h3 := comPre_append (xs.drop (t + (n - f))).reverse ((xs.drop n).take (t - f)).reverse []
  rw [List.append_nil, List.length_reverse] at h3
  have h4 := (comPre_le ((xs.drop (t + (n - f))).reverse ++ ((xs.drop n).take (t - f)).reverse) (xs.drop (t + (n - f))).reverse).2
  rw [List.length_reverse] at h4
  omega
theorem ends_full (xs ys : List Nat) (hl : xs.length = ys.length) : endsN xs ys = xs.length ↔ xs = ys := by
  constructor
  · intro h
    exact list_ext_getD hl (fun p hp => comPre_at xs ys p (by unfold endsN at h; omega))
  · rintro rfl
    exact (ends_self xs).1
theorem ends_turn (xs : List Nat) (f t : Nat) (h1 : f ≤ t) (h2 : t ≤ xs.length) (hne : endsN xs (turnV xs f t) ≠ xs.length) : f ≤ endsN xs (turnV xs f t) ∧ xs.length - t ≤ endsM xs (turnV xs f t) := by
  have hl := turnV_length xs f t
  have hN : f ≤ endsN xs (turnV xs f t) := comPre_ge f _ _ (by omega) (by omega) (fun j hj => by rw [turnV_get _ _ _ _ (by omega), if_neg (by omega)])
  refine ⟨hN, ?_⟩
  have ht : endsN xs (turnV xs f t) < t := by
    apply Classical.byContradiction
    intro hge
    apply hne
    rw [ends_full _ _ hl.symm]
    apply list_ext_getD hl.symm
    intro p hp
    by_cases hpt : p < t
    · exact comPre_at _ _ p (by unfold endsN at hge; omega)
    · rw [turnV_get _ _ _ _ hp, if_neg (by omega)]
  obtain ⟨n, hn⟩ : ∃ n, endsN xs (turnV xs f t) = n := ⟨_, rfl⟩
  unfold endsM
  rw [hn] at ht ⊢
  have e1 : (xs.drop n).length = xs.length - n := List.length_drop
  have e2 : ((turnV xs f t).drop n).length = xs.length - n := by rw [List.length_drop, hl]
  refine comPre_ge _ _ _ (by rw [List.length_reverse]; omega) (by rw [List.length_reverse]; omega) (fun j hj => ?_)
  rw [rev_get _ _ (by omega), rev_get _ _ (by omega), e1, e2, List.getElem?_drop, List.getElem?_drop, turnV_get _ _ _ _ (by omega), if_neg (by omega)]
end Go.Proofs.YtmjigpnpcacefaaGreatDoor
