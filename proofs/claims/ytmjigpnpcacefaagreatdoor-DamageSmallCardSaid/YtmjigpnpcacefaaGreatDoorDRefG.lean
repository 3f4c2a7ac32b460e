/- The reference of pieces: what is no piece; what the pieces' texts are. -/
import Derived.Test.YtmjigpnpcacefaaGreatDoorDRefF
namespace Go.Proofs.YtmjigpnpcacefaaGreatDoor
open Go Go.RowKit Go.Shelf

set_option maxRecDepth 100000 in
set_option maxHeartbeats 2000000 in
theorem rpiecesB0_any (v : Value) (xs : List Nat) (f m t : Int) (h : f < 0 ∨ t < f ∨ t < t ∨ (xs.length : Int) < t) (w : World) (hv : Reads .u8 w v xs) :
    Calls Tryz.prog 39 #[.int .i64 0, v, .int .i64 f, .int .i64 m, .int .i64 t] w fun e w' => e = .returned (.tuple #[.slice none 0 0, .int .i64 2]) ∧ w = w' := by
  obtain ⟨av, cv, rfl, hlc, hcm, -⟩ := hv
  obtain ⟨n, HN⟩ := nm xs.length
  rw [HN.out] at hlc h ⊢
  by_cases h1 : f < 0
  · have d1 : decide (f < 0) = true := decide_eq_true h1
    clear h
    go_enter Tryz.func39, Tryz.ntmps39
    go_wp2_with fail
    go_ret2
    exact ⟨rfl, rfl⟩
  have d1 : decide (f < 0) = false := decide_eq_false h1
  by_cases h2 : t < f
  · have d2 : decide (t < f) = true := decide_eq_true h2
    clear h
    go_enter Tryz.func39, Tryz.ntmps39
    go_wp2_with fail
    go_ret2
    exact ⟨rfl, rfl⟩
  have d2 : decide (t < f) = false := decide_eq_false h2
  by_cases h3 : t < t
  · have d3 : decide (t < t) = true := decide_eq_true h3
    clear h
    go_enter Tryz.func39, Tryz.ntmps39
    go_wp2_with fail
    go_ret2
    exact ⟨rfl, rfl⟩
  have d3 : decide (t < t) = false := decide_eq_false h3
  have d4 : decide ((n : Int) < t) = true := decide_eq_true (by omega)
  clear h
  go_enter Tryz.func39, Tryz.ntmps39
  go_wp2_with fail
  go_ret2
  exact ⟨rfl, rfl⟩
set_option maxRecDepth 100000 in
set_option maxHeartbeats 2000000 in
theorem rpiecesB1_any (v : Value) (xs : List Nat) (f m t : Int) (h : f < 0 ∨ t < f ∨ t < t ∨ (xs.length : Int) < t) (w : World) (hv : Reads .u8 w v xs) :
    Calls Tryz.prog 39 #[.int .i64 1, v, .int .i64 f, .int .i64 m, .int .i64 t] w fun e w' => e = .returned (.tuple #[.slice none 0 0, .int .i64 2]) ∧ w = w' := by
  obtain ⟨av, cv, rfl, hlc, hcm, -⟩ := hv
  obtain ⟨n, HN⟩ := nm xs.length
  rw [HN.out] at hlc h ⊢
  by_cases h1 : f < 0
  · have d1 : decide (f < 0) = true := decide_eq_true h1
    clear h
    go_enter Tryz.func39, Tryz.ntmps39
    go_wp2_with fail
    go_ret2
    exact ⟨rfl, rfl⟩
  have d1 : decide (f < 0) = false := decide_eq_false h1
  by_cases h2 : t < f
  · have d2 : decide (t < f) = true := decide_eq_true h2
    clear h
    go_enter Tryz.func39, Tryz.ntmps39
    go_wp2_with fail
    go_ret2
    exact ⟨rfl, rfl⟩
  have d2 : decide (t < f) = false := decide_eq_false h2
  by_cases h3 : t < t
  · have d3 : decide (t < t) = true := decide_eq_true h3
    clear h
    go_enter Tryz.func39, Tryz.ntmps39
    go_wp2_with fail
    go_ret2
    exact ⟨rfl, rfl⟩
  have d3 : decide (t < t) = false := decide_eq_false h3
  have d4 : decide ((n : Int) < t) = true := decide_eq_true (by omega)
  clear h
  go_enter Tryz.func39, Tryz.ntmps39
  go_wp2_with fail
  go_ret2
  exact ⟨rfl, rfl⟩
set_option maxRecDepth 100000 in
set_option maxHeartbeats 2000000 in
theorem rpiecesB2_any (v : Value) (xs : List Nat) (f m t : Int) (h : f < 0 ∨ t < f ∨ t < t ∨ (xs.length : Int) < t) (w : World) (hv : Reads .u8 w v xs) :
    Calls Tryz.prog 39 #[.int .i64 2, v, .int .i64 f, .int .i64 m, .int .i64 t] w fun e w' => e = .returned (.tuple #[.slice none 0 0, .int .i64 2]) ∧ w = w' := by
  obtain ⟨av, cv, rfl, hlc, hcm, -⟩ := hv
  obtain ⟨n, HN⟩ := nm xs.length
  rw [HN.out] at hlc h ⊢
  by_cases h1 : f < 0
  · have d1 : decide (f < 0) = true := decide_eq_true h1
    clear h
    go_enter Tryz.func39, Tryz.ntmps39
    go_wp2_with fail
    go_ret2
    exact ⟨rfl, rfl⟩
  have d1 : decide (f < 0) = false := decide_eq_false h1
  by_cases h2 : t < f
  · have d2 : decide (t < f) = true := decide_eq_true h2
    clear h
    go_enter Tryz.func39, Tryz.ntmps39
    go_wp2_with fail
    go_ret2
    exact ⟨rfl, rfl⟩
  have d2 : decide (t < f) = false := decide_eq_false h2
  by_cases h3 : t < t
  · have d3 : decide (t < t) = true := decide_eq_true h3
    clear h
    go_enter Tryz.func39, Tryz.ntmps39
    go_wp2_with fail
    go_ret2
    exact ⟨rfl, rfl⟩
  have d3 : decide (t < t) = false := decide_eq_false h3
  have d4 : decide ((n : Int) < t) = true := decide_eq_true (by omega)
  clear h
  go_enter Tryz.func39, Tryz.ntmps39
  go_wp2_with fail
  go_ret2
  exact ⟨rfl, rfl⟩
set_option maxRecDepth 100000 in
set_option maxHeartbeats 2000000 in
theorem rpiecesB3_any (v : Value) (xs : List Nat) (f m t : Int) (h : f < 0 ∨ m < f ∨ t < m ∨ (xs.length : Int) < t) (w : World) (hv : Reads .u8 w v xs) :
    Calls Tryz.prog 39 #[.int .i64 3, v, .int .i64 f, .int .i64 m, .int .i64 t] w fun e w' => e = .returned (.tuple #[.slice none 0 0, .int .i64 2]) ∧ w = w' := by
  obtain ⟨av, cv, rfl, hlc, hcm, -⟩ := hv
  obtain ⟨n, HN⟩ := nm xs.length
  rw [HN.out] at hlc h ⊢
  by_cases h1 : f < 0
  · have d1 : decide (f < 0) = true := decide_eq_true h1
    clear h
    go_enter Tryz.func39, Tryz.ntmps39
    go_wp2_with fail
    go_ret2
    exact ⟨rfl, rfl⟩
  have d1 : decide (f < 0) = false := decide_eq_false h1
  by_cases h2 : m < f
  · have d2 : decide (m < f) = true := decide_eq_true h2
    clear h
    go_enter Tryz.func39, Tryz.ntmps39
    go_wp2_with fail
    go_ret2
    exact ⟨rfl, rfl⟩
  have d2 : decide (m < f) = false := decide_eq_false h2
  by_cases h3 : t < m
  · have d3 : decide (t < m) = true := decide_eq_true h3
    clear h
    go_enter Tryz.func39, Tryz.ntmps39
    go_wp2_with fail
    go_ret2
    exact ⟨rfl, rfl⟩
  have d3 : decide (t < m) = false := decide_eq_false h3
  have d4 : decide ((n : Int) < t) = true := decide_eq_true (by omega)
  clear h
  go_enter Tryz.func39, Tryz.ntmps39
  go_wp2_with fail
  go_ret2
  exact ⟨rfl, rfl⟩
theorem seg_take (xs : List Nat) (f : Nat) : seg xs 0 f = xs.take f := by simp [seg]
theorem seg_drop (xs : List Nat) (t : Nat) : seg xs t xs.length = xs.drop t := by
  unfold seg
  exact List.take_of_length_le (by rw [List.length_drop]; exact Nat.le_refl _)
theorem take_seg (xs : List Nat) {f t : Nat} (h : f ≤ t) : xs.take t = xs.take f ++ seg xs f t := by
  unfold seg
  rw [← List.take_append_drop f (xs.take t), List.take_take, List.drop_take, Nat.min_eq_left h]
theorem drop_seg (xs : List Nat) {f t : Nat} (h : f ≤ t) : xs.drop f = seg xs f t ++ xs.drop t := by
  unfold seg
  conv => lhs; rw [← List.take_append_drop (t - f) (xs.drop f)]
  rw [List.drop_drop, show f + (t - f) = t by omega]
/-- What the program's Double makes is what the reference makes. -/
theorem double_ref (xs : List Nat) {f t : Nat} (h : f ≤ t) : xs.take t ++ xs.drop f = ((seg xs 0 f ++ seg xs f t) ++ seg xs f t) ++ seg xs t xs.length := by
  rw [seg_take, seg_drop, take_seg xs h, drop_seg xs h]
  simp only [List.append_assoc]
theorem drop_ref (xs : List Nat) (f t : Nat) : xs.take f ++ xs.drop t = seg xs 0 f ++ seg xs t xs.length := by rw [seg_take, seg_drop]
theorem swap_ref (xs : List Nat) (f m t : Nat) : xs.take f ++ (xs.drop m).take (t - m) ++ (xs.drop f).take (m - f) ++ xs.drop t = ((seg xs 0 f ++ seg xs m t) ++ seg xs f m) ++ seg xs t xs.length := by
  rw [seg_take, seg_drop]; rfl
theorem rseg_get (xs : List Nat) {f t p : Nat} (ht : t ≤ xs.length) (hp : p < t - f) : (rseg xs f t)[p]?.getD 0 = xs[t - 1 - p]?.getD 0 := by
  have hl : (seg xs f t).length = t - f := by rw [seg_len]; omega
  unfold rseg
  rw [rev_get _ _ (by rw [hl]; exact hp), hl]
  unfold seg
  rw [List.getElem?_take_of_lt (by omega), List.getElem?_drop, show f + (t - f - 1 - p) = t - 1 - p by omega]
theorem turn_ref (xs : List Nat) {f t : Nat} (h : f ≤ t) (ht : t ≤ xs.length) : turnV xs f t = (seg xs 0 f ++ rseg xs f t) ++ seg xs t xs.length := by
  rw [seg_take, seg_drop]
  have hrl : (rseg xs f t).length = t - f := by rw [rseg_len]; omega
  have hfl : (xs.take f).length = f := by rw [List.length_take]; omega
  refine list_ext_getD (by rw [turnV_length]; simp only [List.length_append, hrl, hfl, List.length_drop]; omega) fun p hp => ?_
  rw [turnV_length] at hp
  rw [turnV_get xs f t p hp, List.append_assoc]
  by_cases h1 : p < f
  · rw [if_neg (by omega), List.getElem?_append_left (by rw [hfl]; exact h1), List.getElem?_take_of_lt h1]
  · rw [List.getElem?_append_right (by rw [hfl]; omega), hfl]
    by_cases h2 : p < t
    · rw [if_pos ⟨by omega, h2⟩, List.getElem?_append_left (by rw [hrl]; omega), rseg_get xs ht (by omega), show t - 1 - (p - f) = f + t - 1 - p by omega]
    · rw [if_neg (by omega), List.getElem?_append_right (by rw [hrl]; omega), hrl, List.getElem?_drop, show t + (p - f - (t - f)) = p by omega]
end Go.Proofs.YtmjigpnpcacefaaGreatDoor
