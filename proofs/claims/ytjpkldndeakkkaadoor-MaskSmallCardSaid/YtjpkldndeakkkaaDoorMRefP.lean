/- The reference masks: what their functions give is what the program's give; plain lists and numbers. -/
import Derived.Test.YtjpkldndeakkkaaDoorMskQ
import Derived.Test.YtjpkldndeakkkaaDoorMskT
namespace Go.Proofs.YtjpkldndeakkkaaDoor
open Go Go.RowKit Go.Shelf

theorem mat_len (m : Nat) : (members m).length ≤ 64 := memL_length m 64
theorem mat_hit {m : Nat} (hm : m < 18446744073709551616) {k : Nat} (hk : m.testBit k = true) : ∃ i, i < (members m).length ∧ mat m i = (k : Int) := by
  obtain ⟨i, hi, he⟩ := List.mem_iff_getElem.1 ((members_mem hm).2 hk)
  refine ⟨i, hi, ?_⟩
  unfold mat
  rw [ints_get, List.getElem?_eq_getElem hi, he, Option.getD_some]
theorem mat_bit {m : Nat} (hm : m < 18446744073709551616) {i : Nat} (hi : i < (members m).length) : ∃ k : Nat, mat m i = (k : Int) ∧ k < 64 ∧ m.testBit k = true := by
  refine ⟨(members m)[i], ?_, members_lt (List.getElem_mem hi), (members_mem hm).1 (List.getElem_mem hi)⟩
  unfold mat
  rw [ints_get, List.getElem?_eq_getElem hi, Option.getD_some]

/-- Right, as the reference has it. -/
theorem right_ref {m : Nat} (hm : m < 18446744073709551616) (n : Int) (h1 : 1 ≤ n) (h2 : n ≤ 64) (hp : 0 < (members m).length) :
    mrightB m n = decide (mat m ((members m).length - 1) < n) := by
  have h0 : m ≠ 0 := by
    intro e; subst e
    have : members 0 = [] := by decide +kernel
    rw [this] at hp; simp at hp
  unfold mrightB
  rw [decide_eq_decide]
  obtain ⟨k, hk, hk64, hkb⟩ := mat_bit hm (show (members m).length - 1 < (members m).length by omega)
  constructor
  · rintro ⟨-, -, -, h⟩
    rw [hk]
    rcases Nat.lt_or_ge k n.toNat with h3 | h3
    · omega
    · have := Gf.bit_ge (n := n.toNat) h h3
      rw [this] at hkb; cases hkb
  · intro h
    refine ⟨by omega, h2, h0, ?_⟩
    apply Gf.lt_of_bits
    intro i hi
    by_cases hb : m.testBit i = true
    · obtain ⟨j, hj, he⟩ := mat_hit hm hb
      by_cases e : j = (members m).length - 1
      · subst e; omega
      · have := mat_rise (m := m) (show j < (members m).length - 1 by omega) (by omega)
        omega
    · simpa using hb
theorem right_none {m : Nat} (hm : m < 18446744073709551616) (n : Int) (hp : (members m).length = 0) : mrightB m n = false := by
  have h0 : m = 0 := Classical.byContradiction fun h => by have := members_pos hm h; omega
  unfold mrightB
  exact decide_eq_false (by omega)
theorem right_out {m : Nat} {n : Int} (h : n < 1 ∨ 64 < n) : mrightB m n = false := by
  unfold mrightB
  refine decide_eq_false ?_
  rintro ⟨a, b, c, d⟩
  have : n = 0 := by omega
  subst this
  have : m < 1 := d
  omega

/-- Next, as the reference has it: -1 for none. -/
def rnextI (m : Nat) (c : Int) : Int := if nextB m c then nextI m c else -1
theorem rnext_at {m j : Nat} {c : Int} (hj : j < (members m).length) (hlow : ∀ i, i < j → mat m i < c) (hc : c ≤ mat m j) : rnextI m c = mat m j := by
  obtain ⟨h1, h2⟩ := next_at hj hlow hc
  unfold rnextI
  rw [h2, if_pos rfl, h1]
theorem rnext_over {m : Nat} {c : Int} (h : ∀ i, i < (members m).length → mat m i < c) : rnextI m c = -1 := by
  unfold rnextI
  rw [(next_over h).2]; rfl
/-- The first member that is not below c. -/
theorem cut_at (m : Nat) (c : Int) : ∀ n, n ≤ (members m).length → ∃ p, p ≤ n ∧ (∀ i, i < p → mat m i < c) ∧ (∀ i, p ≤ i → i < n → c ≤ mat m i)
  | 0, _ => ⟨0, Nat.le_refl _, fun i h => by omega, fun i _ h => by omega⟩
  | n + 1, h => by
    obtain ⟨p, h1, h2, h3⟩ := cut_at m c n (by omega)
    by_cases e : p < n
    · refine ⟨p, by omega, h2, fun i a b => ?_⟩
      by_cases e2 : i = n
      · subst e2
        have := h3 p (Nat.le_refl _) e
        have := mat_rise (m := m) e (show i < (members m).length by omega)
        omega
      · exact h3 i a (by omega)
    · obtain rfl : p = n := by omega
      by_cases hc : mat m p < c
      · refine ⟨p + 1, Nat.le_refl _, fun i hi => ?_, fun i a b => by omega⟩
        by_cases e2 : i = p
        · rw [e2]; exact hc
        · exact h2 i (by omega)
      · refine ⟨p, by omega, h2, fun i a b => ?_⟩
        rw [show i = p by omega]; omega
/-- The last one of the first members that is below c; -1 if there is none. -/
def befI (m : Nat) (c : Int) : Nat → Int
  | 0 => -1
  | i + 1 => if mat m i < c then mat m i else befI m c i
theorem befI_bd {m : Nat} {c : Int} : ∀ i, i ≤ (members m).length → -1 ≤ befI m c i ∧ befI m c i < 64
  | 0, _ => by unfold befI; omega
  | i + 1, h => by
    unfold befI
    split
    · have := mat_bd (m := m) (j := i) (by omega); omega
    · exact befI_bd i (by omega)
theorem bef_at {m p : Nat} {c : Int} (hl : ∀ i, i < p → mat m i < c) : ∀ n, p ≤ n → (∀ i, p ≤ i → i < n → c ≤ mat m i) → befI m c n = if p = 0 then -1 else mat m (p - 1)
  | 0, h, _ => by rw [show p = 0 by omega]; rfl
  | n + 1, h, hg => by
    unfold befI
    by_cases e : p = n + 1
    · subst e
      rw [if_pos (hl n (by omega)), if_neg (by omega)]; rfl
    · have := hg n (by omega) (by omega)
      rw [if_neg (by omega)]
      exact bef_at hl n (by omega) (fun i a b => hg i a (by omega))
def rnearI (b a c : Int) : Int := if b < 0 then a else if a < 0 ∨ c - b ≤ a - c then b else a
theorem rnear_eq {m : Nat} (hm : m < 18446744073709551616) (h0 : m ≠ 0) (c : Int) : rnearI (befI m c (members m).length) (rnextI m c) c = nearI m c := by
  have hp := members_pos hm h0
  obtain ⟨L, hL⟩ : ∃ L, (members m).length = L := ⟨_, rfl⟩
  obtain ⟨p, h1, h2, h3⟩ := cut_at m c L (by omega)
  have hb := bef_at h2 L h1 h3
  obtain ⟨j, hj, e1, e2, e3, hs⟩ := near_spec hm h0 c
  have e1' : nearI m c = mat m j := e1
  have hs' : ∀ i, i < L → dist (clip c) (nearI m c) < dist (clip c) (mat m i) ∨ (dist (clip c) (nearI m c) = dist (clip c) (mat m i) ∧ nearI m c ≤ mat m i) := fun i hi => hs i (by omega)
  have hr : ∀ i k, i ≤ k → k < L → mat m i ≤ mat m k := fun i k a b => by
    rcases Nat.lt_or_ge i k with h | h
    · exact Int.le_of_lt (mat_rise (m := m) h (by omega))
    · rw [show i = k by omega]; exact Int.le_refl _
  rw [hL] at hj hp ⊢
  rw [hb]
  have hbd := fun i (h : i < L) => mat_bd (m := m) (j := i) (by omega)
  unfold rnearI
  by_cases hp0 : p = 0
  · subst hp0
    rw [if_pos rfl, if_pos (by decide)]
    have hc0 := h3 0 (by omega) hp
    rw [rnext_at (m := m) (j := 0) (by omega) (fun i h => by omega) hc0]
    have q1 := hs' 0 hp
    have q2 := hr 0 j (by omega) hj
    have q3 := hbd 0 hp
    rw [← e1'] at q2
    unfold dist clip at q1
    omega
  · rw [if_neg hp0]
    have hlt := h2 (p - 1) (by omega)
    have q3 := hbd (p - 1) (by omega)
    have q1 := hs' (p - 1) (by omega)
    rw [if_neg (by omega)]
    by_cases hpL : p = L
    · subst hpL
      rw [rnext_over (m := m) (c := c) (fun i h => h2 i (by omega)), if_pos (Or.inl (by decide))]
      have q2 := hr j (p - 1) (by omega) (by omega)
      rw [← e1'] at q2
      unfold dist clip at q1
      omega
    · have hge := h3 p (Nat.le_refl _) (by omega)
      rw [rnext_at (m := m) (j := p) (by omega) h2 hge]
      have q4 := hbd p (by omega)
      have q5 := hs' p (by omega)
      have q6 : nearI m c ≤ mat m (p - 1) ∨ mat m p ≤ nearI m c := by
        rw [e1']
        rcases Nat.lt_or_ge j p with h | h
        · exact .inl (hr j (p - 1) (by omega) (by omega))
        · exact .inr (hr p j h hj)
      unfold dist clip at q1 q5
      split <;> omega

/-- The text, as the reference makes it: the place from which the runs are still to be written. -/
def nxt (m c : Nat) : Nat := if 0 < c ∧ m.testBit c = true ∧ m.testBit (c - 1) = true then runTo m c 64 + 1 else c
theorem runTo_stop {m : Nat} (hm : m < 18446744073709551616) : ∀ f c, 64 ≤ c + f → m.testBit (runTo m c f + 1) = false
  | 0, c, h => Gf.bit_ge (n := 64) hm (by unfold runTo; omega)
  | f + 1, c, h => by
    unfold runTo
    by_cases hb : m.testBit (c + 1) = true
    · rw [if_pos hb]; exact runTo_stop hm f (c + 1) (by omega)
    · rw [if_neg hb]; simpa using hb
theorem runTo_shift {m c : Nat} (hm : m < 18446744073709551616) (h : m.testBit (c + 1) = true) : runTo m c 64 = runTo m (c + 1) 64 := by
  have hc : c + 1 < 64 := by
    rcases Nat.lt_or_ge (c + 1) 64 with h1 | h1
    · exact h1
    · rw [Gf.bit_ge (n := 64) hm h1] at h; cases h
  have hl := runTo_lt hm 64 (c + 1) hc
  have hg := runTo_ge m 64 (c + 1)
  exact runTo_eq m 64 c _ (by omega) (by omega) (fun i a b => runTo_spec 64 (c + 1) h i (by omega) b) (runTo_stop hm 64 (c + 1) (by omega))
theorem runTo_here {m c : Nat} (h : m.testBit (c + 1) = false) : runTo m c 64 = c := by
  unfold runTo
  rw [h]; rfl
theorem nxt_on {m c : Nat} (hm : m < 18446744073709551616) (h : m.testBit c = true) : nxt m (c + 1) = runTo m c 64 + 1 := by
  unfold nxt
  by_cases hb : m.testBit (c + 1) = true
  · rw [if_pos ⟨by omega, hb, by rw [Nat.add_sub_cancel]; exact h⟩, runTo_shift hm hb]
  · have hb' : m.testBit (c + 1) = false := by simpa using hb
    rw [if_neg (fun q => hb q.2.1), runTo_here hb']
theorem nxt_off {m c : Nat} (h : m.testBit c = false) : nxt m c = c ∧ nxt m (c + 1) = c + 1 := by
  unfold nxt
  constructor
  · rw [if_neg (fun q => by rw [h] at q; cases q.2.1)]
  · rw [if_neg (fun q => by rw [Nat.add_sub_cancel, h] at q; cases q.2.2)]
theorem nxt_in {m c : Nat} (hm : m < 18446744073709551616) (h0 : 0 < c) (h1 : m.testBit c = true) (h2 : m.testBit (c - 1) = true) : runs m 65 (nxt m c) = runs m 65 (nxt m (c + 1)) := by
  rw [nxt_on hm h1]
  unfold nxt
  rw [if_pos ⟨h0, h1, h2⟩]
theorem nxt_no {m c : Nat} (hc : c < 64) (h : m.testBit c = false) : runs m 65 (nxt m c) = runs m 65 (nxt m (c + 1)) := by
  obtain ⟨e1, e2⟩ := nxt_off h
  rw [e1, e2]
  exact runs_no m c hc h
theorem nxt_at {m c l : Nat} (hm : m < 18446744073709551616) (hc : c < 64) (h : m.testBit c = true) (h0 : c = 0 ∨ m.testBit (c - 1) = false) (hcl : c ≤ l) (hl : l < 64)
    (hb : ∀ i, c ≤ i → i ≤ l → m.testBit i = true) (he : m.testBit (l + 1) = false) : runs m 65 (nxt m c) = rtext c l :: runs m 65 (nxt m (c + 1)) := by
  have hr : runTo m c 64 = l := runTo_eq m 64 c l hcl (by omega) (fun i a b => hb i (by omega) b) he
  rw [nxt_on hm h, hr]
  have : nxt m c = c := by
    unfold nxt
    rw [if_neg]
    rintro ⟨a, -, b⟩
    rcases h0 with h0 | h0
    · omega
    · rw [h0] at b; cases b
  rw [this]
  exact runs_yes m c l hc h hr hcl
theorem nxt_zero (m : Nat) : nxt m 0 = 0 := by unfold nxt; rw [if_neg (by omega)]
theorem nxt_end {m : Nat} (hm : m < 18446744073709551616) : runs m 65 (nxt m 64) = [] := by
  have : m.testBit 64 = false := Gf.bit_ge (n := 64) hm (by omega)
  rw [(nxt_off this).1]
  exact runs_end m 64 (by omega)
theorem join_more (pre : List (List UInt8)) (x : List UInt8) (h : pre ≠ []) : Lib.join (pre ++ [x]) [44] = Lib.join pre [44] ++ [44] ++ x := by
  cases pre with
  | nil => exact absurd rfl h
  | cons y r =>
    rw [List.cons_append, Lib.join_cons, Lib.join_cons]
    simp [Lib.joinTail]
theorem join_empty {pre : List (List UInt8)} (h : ∀ x ∈ pre, x ≠ []) (he : Lib.join pre [44] = []) : pre = [] := by
  cases pre with
  | nil => rfl
  | cons y r =>
    rw [Lib.join_cons] at he
    have := List.append_eq_nil_iff.1 he
    exact absurd this.1 (h y List.mem_cons_self)
end Go.Proofs.YtjpkldndeakkkaaDoor
