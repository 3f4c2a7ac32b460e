/- The reference bursts: what their functions give is what the program's give; plain lists and numbers. -/
import Derived.Test.YtmjigpnpcacefaaGreatDoorDmgS
namespace Go.Proofs.YtmjigpnpcacefaaGreatDoor
open Go Go.RowKit Go.Shelf

theorem or_pow {M k : Nat} (h : M.testBit k = false) : M + 2 ^ k = M ||| 2 ^ k := by
  have hA : M % 2 ^ k < 2 ^ k := Nat.mod_lt _ (Nat.pow_pos (by decide))
  have hev : M / 2 ^ k % 2 = 0 := by
    rw [Nat.testBit_eq_decide_div_mod_eq] at h
    have := of_decide_eq_false h
    omega
  have e1 : 2 ^ (k + 1) * (M / 2 ^ k / 2) + M % 2 ^ k = M := by
    have h1 := Nat.div_add_mod M (2 ^ k)
    have h2 : M / 2 ^ k = 2 * (M / 2 ^ k / 2) := by omega
    rw [Nat.pow_succ, Nat.mul_assoc, ← h2]
    exact h1
  have hk : (2 : Nat) ^ (k + 1) = 2 * 2 ^ k := by rw [Nat.pow_succ]; omega
  obtain ⟨B, hB⟩ : ∃ B, M / 2 ^ k / 2 = B := ⟨_, rfl⟩
  obtain ⟨A, hA'⟩ : ∃ A, M % 2 ^ k = A := ⟨_, rfl⟩
  rw [hB, hA'] at e1
  rw [hA'] at hA
  have e2 := Nat.two_pow_add_eq_or_of_lt (i := k + 1) (b := A) (by omega) B
  have e3 := Nat.two_pow_add_eq_or_of_lt (i := k + 1) (b := 2 ^ k + A) (by omega) B
  have e4 := Nat.two_pow_add_eq_or_of_lt (i := k) (b := A) hA 1
  rw [Nat.mul_one] at e4
  rw [← e1, e2, Nat.or_assoc, Nat.or_comm A, ← e4, ← e3, ← e2]
  omega
theorem blist_more (x : Int) {b n : Nat} (hn : Gf.plen b ≤ n) : ∀ k, blist x b (n + k) = blist x b n
  | 0 => rfl
  | k + 1 => by
    rw [← Nat.add_assoc, blist_succ, Gf.bit_plen (show Gf.plen b ≤ n + k by omega), if_neg (by decide), List.append_nil]
    exact blist_more x hn k
theorem blist_all (x : Int) {b : Nat} (hb : b < 4294967296) : blist x b 32 = blist x b (Gf.plen b) := by
  have hp : Gf.plen b ≤ 32 := Gf.plen_le.2 hb
  have := blist_more x (Nat.le_refl (Gf.plen b)) (32 - Gf.plen b)
  rwa [show Gf.plen b + (32 - Gf.plen b) = 32 by omega] at this
theorem blist_from (x : Int) (b n : Nat) : blist x b n = (blist 0 b n).map fun y => x + y := by
  unfold blist
  rw [List.map_map]
  congr 1
  funext i
  simp
theorem blist_last {b : Nat} (hb : b < 4294967296) (h0 : b ≠ 0) : 0 < (blist 0 b 32).length ∧ (blist 0 b 32)[(blist 0 b 32).length - 1]?.getD 0 = (Gf.plen b : Int) - 1 := by
  have hp := Gf.plen_pos h0
  have ht := Gf.plen_top h0
  rw [blist_all 0 hb]
  obtain ⟨n, hn⟩ : ∃ n, Gf.plen b = n + 1 := ⟨Gf.plen b - 1, by omega⟩
  rw [hn] at ht ⊢
  rw [Nat.add_sub_cancel] at ht
  rw [blist_succ, ht, if_pos rfl]
  refine ⟨by simp, ?_⟩
  rw [List.getElem?_append_right (by simp)]
  simp
theorem blist_bd {b n : Nat} (hn : n ≤ 32) : ∀ y ∈ blist 0 b n, 0 ≤ y ∧ y < 32 := by
  intro y hy
  unfold blist at hy
  obtain ⟨i, hi, rfl⟩ := List.mem_map.1 hy
  have := List.mem_range.1 (List.mem_filter.1 hi).1
  omega
/-- The sum of the bits of a burst, as the reference makes it. -/
def sB (l : List Int) (m : Int) : Nat → Nat
  | 0 => 0
  | k + 1 => sB l m k + 2 ^ (l[k]?.getD 0 - m).toNat
theorem sB_bit {l : List Int} {m : Int} (hd : l.Nodup) (hm : ∀ k ∈ l, m ≤ k) : ∀ n, n ≤ l.length → ∀ i, (sB l m n).testBit i = true ↔ ∃ j, j < n ∧ (l[j]?.getD 0 - m).toNat = i
  | 0, _, i => by
    unfold sB
    rw [Nat.zero_testBit]
    constructor
    · intro h; cases h
    · rintro ⟨j, hj, _⟩; omega
  | n + 1, h, i => by
    have ih := sB_bit hd hm n (by omega)
    have hg : ∀ j, j < l.length → l[j]?.getD 0 ∈ l := fun j hj => get_mem hj
    have hno : (sB l m n).testBit (l[n]?.getD 0 - m).toNat = false := by
      cases hq : (sB l m n).testBit (l[n]?.getD 0 - m).toNat with
      | false => rfl
      | true =>
        obtain ⟨j, hj, he⟩ := (ih _).1 hq
        have h1 := hm _ (hg j (by omega))
        have h2 := hm _ (hg n (by omega))
        have e : l[j]?.getD 0 = l[n]?.getD 0 := by omega
        rw [List.getElem?_eq_getElem (by omega), List.getElem?_eq_getElem (by omega), Option.getD_some, Option.getD_some] at e
        have := (List.getElem_inj hd).1 e
        omega
    unfold sB
    rw [or_pow hno, Nat.testBit_or, Nat.testBit_two_pow, Bool.or_eq_true, ih i, decide_eq_true_eq]
    constructor
    · rintro (⟨j, hj, e⟩ | e)
      · exact ⟨j, by omega, e⟩
      · exact ⟨n, by omega, e⟩
    · rintro ⟨j, hj, e⟩
      by_cases hjn : j = n
      · subst hjn; exact .inr e
      · exact .inl ⟨j, by omega, e⟩
theorem sB_lt {l : List Int} {m : Int} (hd : l.Nodup) (hm : ∀ k ∈ l, m ≤ k ∧ k - m < 32) (n : Nat) (hn : n ≤ l.length) : sB l m n < 4294967296 := by
  refine Gf.lt_of_bits (n := 32) (fun i hi => ?_)
  cases hq : (sB l m n).testBit i with
  | false => rfl
  | true =>
    obtain ⟨j, hj, he⟩ := (sB_bit hd (fun k hk => (hm k hk).1) n hn i).1 hq
    have := hm _ (get_mem (s := l) (i := j) (by omega))
    omega
theorem of_sum {l : List Int} (hne : l ≠ []) (h0 : ∀ k ∈ l, 0 ≤ k) (hd : l.Nodup) {m : Int} (hm : m ∈ l) (hle : ∀ k ∈ l, m ≤ k) (hlt : ∀ k ∈ l, k - m < 32) :
    ofE l = 0 ∧ ofA l = m ∧ ofB l = sB l m l.length := by
  have he : ofE l = 0 := of_fine l hne h0 hd (fun a ha b hb => by have := hlt a ha; have := hle b hb; omega)
  obtain ⟨h1, h2⟩ := of_vals l he m hm hle
  refine ⟨he, h1, ?_⟩
  apply Nat.eq_of_testBit_eq
  intro i
  rw [Bool.eq_iff_iff, h2 i, sB_bit hd hle l.length (Nat.le_refl _)]
  constructor
  · intro h
    obtain ⟨j, hj, e⟩ := mem_get h
    exact ⟨j, hj, by rw [e]; omega⟩
  · rintro ⟨j, hj, e⟩
    have := get_mem (s := l) hj
    have h3 := hle _ this
    rw [show m + (i : Int) = l[j]?.getD 0 by omega]
    exact this
theorem of_zero {l : List Int} (h : ofE l ≠ 0) : ofA l = 0 ∧ ofB l = 0 := by
  unfold ofA ofB
  rw [if_neg h, if_neg h]
  exact ⟨rfl, rfl⟩
end Go.Proofs.YtmjigpnpcacefaaGreatDoor
