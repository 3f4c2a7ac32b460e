/- What damage and the reference make of a piece is the same, each way; the walk of the law DamagePieces. -/
import Derived.Test.YtmjigpnpcacefaaGreatDoorApB
import Derived.Test.YtmjigpnpcacefaaGreatDoorDRefE
import Derived.Test.YtmjigpnpcacefaaGreatDoorDRefG
import Derived.Test.YtmjigpnpcacefaaGreatDoorDmgH
import Derived.Test.YtmjigpnpcacefaaGreatDoorAwakeD
import Derived.Test.YtmjigpnpcacefaaGreatDoorSame
namespace Go.Proofs.YtmjigpnpcacefaaGreatDoor
open Go Go.RowKit Go.Shelf

/-- A call that makes bytes of its own and a number. -/
def Gives (f : FuncId) (args : Array Value) (w : World) (V : List Nat) (E : Int) : Prop :=
  Calls Tryz.prog f args w fun e w' => ∃ v', e = .returned (.tuple #[v', .int .i64 E]) ∧ Owns .u8 5 w' w.heap.size v' V ∧ Below w.heap.size w w'
theorem gives_nil {f : FuncId} {args : Array Value} {w : World} {E : Int} (h : Calls Tryz.prog f args w fun e w' => e = .returned (.tuple #[.slice none 0 0, .int .i64 E]) ∧ w = w') : Gives f args w [] E := by
  refine h.mono ?_
  rintro e w' ⟨rfl, rfl⟩
  exact ⟨_, rfl, Owns.nil _ _ _ _, bel_refl _⟩
theorem both0 (xs : List Nat) (f m t : Int) (hxl : xs.length < 300000) : ∃ (V : List Nat) (E : Int), V.length < 700000 ∧ (∀ v w, Reads .u8 w v xs → Gives 28 #[v, .int .i64 f, .int .i64 t] w V E) ∧
    (∀ v w, Reads .u8 w v xs → Gives 39 #[.int .i64 0, v, .int .i64 f, .int .i64 m, .int .i64 t] w V E) := by
  by_cases h : 0 ≤ f ∧ f ≤ t ∧ t ≤ (xs.length : Int)
  · obtain ⟨f', rfl⟩ := Int.eq_ofNat_of_zero_le h.1
    obtain ⟨t', rfl⟩ := Int.eq_ofNat_of_zero_le (show 0 ≤ t by omega)
    refine ⟨xs.take f' ++ xs.drop t', 0, by rw [List.length_append, List.length_take, List.length_drop]; omega, fun v w hv => drop_any v xs f' t' (by omega) (by omega) w hv (by omega), fun v w hv => ?_⟩
    rw [drop_ref]
    exact rpieces0_any v xs f' t' m (by omega) (by omega) w hv (by omega)
  · exact ⟨[], 2, by decide, fun v w hv => gives_nil (drop_bad v xs f t (decide_eq_false h) w hv), fun v w hv => gives_nil (rpiecesB0_any v xs f m t (by omega) w hv)⟩
theorem both1 (xs : List Nat) (f m t : Int) (hxl : xs.length < 300000) : ∃ (V : List Nat) (E : Int), V.length < 700000 ∧ (∀ v w, Reads .u8 w v xs → Gives 29 #[v, .int .i64 f, .int .i64 t] w V E) ∧
    (∀ v w, Reads .u8 w v xs → Gives 39 #[.int .i64 1, v, .int .i64 f, .int .i64 m, .int .i64 t] w V E) := by
  by_cases h : 0 ≤ f ∧ f ≤ t ∧ t ≤ (xs.length : Int)
  · obtain ⟨f', rfl⟩ := Int.eq_ofNat_of_zero_le h.1
    obtain ⟨t', rfl⟩ := Int.eq_ofNat_of_zero_le (show 0 ≤ t by omega)
    refine ⟨xs.take t' ++ xs.drop f', 0, by rw [List.length_append, List.length_take, List.length_drop]; omega, fun v w hv => double_any v xs f' t' (by omega) (by omega) w hv (by omega), fun v w hv => ?_⟩
    rw [double_ref xs (by omega)]
    exact rpieces1_any v xs f' t' m (by omega) (by omega) w hv (by omega)
  · exact ⟨[], 2, by decide, fun v w hv => gives_nil (double_bad v xs f t (decide_eq_false h) w hv), fun v w hv => gives_nil (rpiecesB1_any v xs f m t (by omega) w hv)⟩
theorem both2 (xs : List Nat) (f m t : Int) (hxl : xs.length < 300000) : ∃ (V : List Nat) (E : Int), V.length < 700000 ∧ (∀ v w, Reads .u8 w v xs → Gives 30 #[v, .int .i64 f, .int .i64 t] w V E) ∧
    (∀ v w, Reads .u8 w v xs → Gives 39 #[.int .i64 2, v, .int .i64 f, .int .i64 m, .int .i64 t] w V E) := by
  by_cases h : 0 ≤ f ∧ f ≤ t ∧ t ≤ (xs.length : Int)
  · obtain ⟨f', rfl⟩ := Int.eq_ofNat_of_zero_le h.1
    obtain ⟨t', rfl⟩ := Int.eq_ofNat_of_zero_le (show 0 ≤ t by omega)
    refine ⟨turnV xs f' t', 0, by rw [turnV_length]; omega, fun v w hv => turn_any v xs f' t' (by omega) (by omega) w hv (by omega), fun v w hv => ?_⟩
    rw [turn_ref xs (by omega) (by omega)]
    exact rpieces2_any v xs f' t' m (by omega) (by omega) w hv (by omega)
  · exact ⟨[], 2, by decide, fun v w hv => gives_nil (turn_bad v xs f t (decide_eq_false h) w hv), fun v w hv => gives_nil (rpiecesB2_any v xs f m t (by omega) w hv)⟩
theorem both3 (xs : List Nat) (f m t : Int) (hxl : xs.length < 300000) : ∃ (V : List Nat) (E : Int), V.length < 700000 ∧ (∀ v w, Reads .u8 w v xs → Gives 31 #[v, .int .i64 f, .int .i64 m, .int .i64 t] w V E) ∧
    (∀ v w, Reads .u8 w v xs → Gives 39 #[.int .i64 3, v, .int .i64 f, .int .i64 m, .int .i64 t] w V E) := by
  by_cases h : 0 ≤ f ∧ f ≤ m ∧ m ≤ t ∧ t ≤ (xs.length : Int)
  · obtain ⟨f', rfl⟩ := Int.eq_ofNat_of_zero_le h.1
    obtain ⟨m', rfl⟩ := Int.eq_ofNat_of_zero_le (show 0 ≤ m by omega)
    obtain ⟨t', rfl⟩ := Int.eq_ofNat_of_zero_le (show 0 ≤ t by omega)
    refine ⟨xs.take f' ++ (xs.drop m').take (t' - m') ++ (xs.drop f').take (m' - f') ++ xs.drop t', 0, by simp only [List.length_append, List.length_take, List.length_drop]; omega, fun v w hv => swap_any v xs f' m' t' (by omega) (by omega) (by omega) w hv (by omega), fun v w hv => ?_⟩
    rw [swap_ref]
    exact rpieces3_any v xs f' m' t' (by omega) (by omega) (by omega) w hv (by omega)
  · refine ⟨[], 2, by decide, fun v w hv => gives_nil (swap_bad v xs f m t ?_ w hv), fun v w hv => gives_nil (rpiecesB3_any v xs f m t (by omega) w hv)⟩
    by_cases h1 : 0 ≤ f ∧ f ≤ m ∧ m ≤ (xs.length : Int)
    · exact .inr (decide_eq_false (by omega))
    · exact .inl (decide_eq_false h1)
theorem dis_of {n : Nat} {S : Nat → Value} (lo : Nat → Nat) (h : ∀ j, j < n → ∀ b, (S j).ownBlock = some b → lo j ≤ b ∧ b < lo (j + 1)) (hm : ∀ j, lo j ≤ lo (j + 1)) : Dis n S := by
  have hmono : ∀ d i, lo i ≤ lo (i + d) := by
    intro d
    induction d with
    | zero => exact fun i => Nat.le_refl _
    | succ d ih => exact fun i => Nat.le_trans (ih i) (hm (i + d))
  intro i j hi hj hne b hb hb'
  have h1 := h i hi b hb
  have h2 := h j hj b hb'
  rcases Nat.lt_or_ge i j with hij | hij
  · have h3 := hmono (j - (i + 1)) (i + 1)
    rw [show i + 1 + (j - (i + 1)) = j by omega] at h3
    omega
  · have h3 := hmono (i - (j + 1)) (j + 1)
    rw [show j + 1 + (i - (j + 1)) = i by omega] at h3
    omega
end Go.Proofs.YtmjigpnpcacefaaGreatDoor
