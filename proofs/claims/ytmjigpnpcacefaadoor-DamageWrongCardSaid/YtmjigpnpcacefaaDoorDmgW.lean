/- Plain laws about bits and bursts that there are not: no program in sight. -/
import Derived.Test.YtmjigpnpcacefaaDoorDmgS
namespace Go.Proofs.YtmjigpnpcacefaaDoor
open Go Go.RowKit Go.Shelf

theorem flE_skip (n : Nat) : ∀ (l1 l2 pre : List Int), (∀ k ∈ l1, 0 ≤ k ∧ k / 8 < (n : Int)) → l1.Nodup → (∀ k ∈ l1, k ∉ pre) → flE n pre (l1 ++ l2) = flE n (pre ++ l1) l2
  | [], l2, pre, _, _, _ => by rw [List.nil_append, List.append_nil]
  | k :: l1, l2, pre, h1, h2, h3 => by
    rw [List.nodup_cons] at h2
    have hk := h1 k List.mem_cons_self
    show (if k < 0 ∨ (n : Int) ≤ k / 8 then 130 else if k ∈ pre then 131 else flE n (pre ++ [k]) (l1 ++ l2)) = _
    rw [if_neg (by omega), if_neg (h3 k List.mem_cons_self)]
    have := flE_skip n l1 l2 (pre ++ [k]) (fun j hj => h1 j (List.mem_cons_of_mem _ hj)) h2.2 (fun j hj => by
      rw [List.mem_append, List.mem_singleton]
      rintro (h | h)
      · exact h3 j (List.mem_cons_of_mem _ hj) h
      · rw [h] at hj; exact h2.1 hj)
    rw [this, List.append_assoc]
    rfl
theorem flE_off (n : Nat) (pre l : List Int) (k : Int) (h : k < 0 ∨ (n : Int) ≤ k / 8) : flE n pre (k :: l) = 130 := by
  unfold flE; exact if_pos h
theorem flE_dup (n : Nat) (pre l : List Int) (k : Int) (h1 : 0 ≤ k ∧ k / 8 < (n : Int)) (h2 : k ∈ pre) : flE n pre (k :: l) = 131 := by
  unfold flE; rw [if_neg (by omega), if_pos h2]
theorem flip_no {xs : List Nat} {l : List Int} {e : Int} (h : flipE xs l = e) (he : e ≠ 0) : flipV xs l = [] := by
  unfold flipV; rw [h, if_neg he]
theorem ints_in {n : Nat} {K : List Nat} (h : ∀ q ∈ K, q < 8 * n) : ∀ k ∈ ints K, 0 ≤ k ∧ k / 8 < (n : Int) := by
  intro k hk
  unfold ints at hk
  obtain ⟨q, hq, rfl⟩ := List.mem_map.1 hk
  have := h q hq
  omega
/-- A bit that there is not, wherever it stands. -/
theorem flip_bad (xs K : List Nat) (k : Nat) (bad : Int) (hK : ∀ q ∈ K, q < 8 * xs.length) (hd : K.Nodup) (hb : bad < 0 ∨ 8 * (xs.length : Int) ≤ bad) (rest : List Int) :
    flipE xs (ints (K.take k) ++ bad :: rest) = 130 := by
  unfold flipE
  rw [flE_skip _ _ _ _ (ints_in (fun q hq => hK q (List.mem_of_mem_take hq))) (ints_nodup (hd.sublist (List.take_sublist _ _))) (fun _ _ h => by cases h)]
  exact flE_off _ _ _ _ (by omega)
/-- A bit that is named twice. -/
theorem flip_again (xs K : List Nat) (j : Nat) (hj : j < K.length) (hK : ∀ q ∈ K, q < 8 * xs.length) (hd : K.Nodup) (rest : List Int) :
    flipE xs (ints K ++ ((K[j]?.getD 0 : Nat) : Int) :: rest) = 131 := by
  unfold flipE
  have hm : K[j]?.getD 0 ∈ K := by rw [List.getElem?_eq_getElem hj]; exact List.getElem_mem hj
  rw [flE_skip _ _ _ _ (ints_in hK) (ints_nodup hd) (fun _ _ h => by cases h)]
  exact flE_dup _ _ _ _ (ints_in hK _ (ints_mem.2 hm)) (by rw [List.nil_append]; exact ints_mem.2 hm)
theorem strike_even (xs : List Nat) (x : Int) (b : Nat) (h : b % 2 = 0) : strikeE xs x b = 2 := by
  unfold strikeE rightB
  rw [decide_eq_false (show ¬ b % 2 = 1 by omega), Bool.and_false, if_neg (by decide)]
theorem strike_below (xs : List Nat) (x : Int) (b : Nat) (h : x < 0) : strikeE xs x b = 2 := by
  unfold strikeE rightB
  rw [decide_eq_false (show ¬ 0 ≤ x by omega), Bool.false_and, if_neg (by decide)]
theorem len_below (x : Int) (b : Nat) (h : x < 0) : lenB x b = 0 := by
  unfold lenB rightB
  rw [decide_eq_false (show ¬ 0 ≤ x by omega), Bool.false_and, if_neg (by decide)]
theorem strike_above (xs : List Nat) (x : Int) (h : 8 * (xs.length : Int) ≤ x) (hx : x ≤ 9223372036854775807) : strikeE xs x 1 = 130 := by
  have hr : rightB x 1 = true := by unfold rightB; rw [decide_eq_true (by omega), decide_eq_true rfl]; rfl
  have hp : Gf.plen 1 = 1 := by decide +kernel
  have ho : bitsOk x 1 = true := by unfold bitsOk; rw [hr, hp, Bool.true_and]; exact decide_eq_true (by omega)
  have hv : bitsV x 1 = [x + 0] := by
    unfold bitsV; rw [if_pos ho, hp]
    unfold blist
    rw [show (List.range 1).filter (fun i => Nat.testBit 1 i) = [0] by decide +kernel]
    rfl
  unfold strikeE
  rw [if_pos hr, if_pos ho, hv]
  unfold flipE
  exact flE_off _ _ _ _ (by omega)
theorem strike_over (xs : List Nat) (h : 0 < xs.length) (hl : xs.length < 1000000) : strikeE xs ((8 * xs.length - 1 : Nat) : Int) 3 = 130 := by
  have hr : rightB ((8 * xs.length - 1 : Nat) : Int) 3 = true := by unfold rightB; rw [decide_eq_true (by omega), decide_eq_true rfl]; rfl
  have hp : Gf.plen 3 = 2 := by decide +kernel
  have ho : bitsOk ((8 * xs.length - 1 : Nat) : Int) 3 = true := by unfold bitsOk; rw [hr, hp, Bool.true_and]; exact decide_eq_true (by omega)
  have hv : bitsV ((8 * xs.length - 1 : Nat) : Int) 3 = [((8 * xs.length - 1 : Nat) : Int) + 0] ++ [((8 * xs.length - 1 : Nat) : Int) + 1] := by
    unfold bitsV; rw [if_pos ho, hp]
    unfold blist
    rw [show (List.range 2).filter (fun i => Nat.testBit 3 i) = [0, 1] by decide +kernel]
    rfl
  unfold strikeE
  rw [if_pos hr, if_pos ho, hv]
  unfold flipE
  rw [flE_skip _ _ _ _ (fun k hk => by rw [List.mem_singleton] at hk; omega) (List.nodup_cons.2 ⟨by simp, List.nodup_nil⟩) (fun _ _ h => by cases h)]
  exact flE_off _ _ _ _ (by omega)
theorem found_short : foundE [1, 2, 3] [-1] = 132 := by decide +kernel
end Go.Proofs.YtmjigpnpcacefaaDoor
