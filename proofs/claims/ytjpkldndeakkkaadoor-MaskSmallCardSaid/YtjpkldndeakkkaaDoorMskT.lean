/- Masks of CPUs: the text of a mask is read back; plain lists and numbers. -/
import Derived.Test.YtjpkldndeakkkaaDoorMskH
namespace Go.Proofs.YtjpkldndeakkkaaDoor
open Go Go.RowKit Go.Shelf

theorem cutA_at {x T : List UInt8} {c : UInt8} (h : c ∉ x) : cutA (x ++ c :: T) c = x := by
  unfold cutA
  have hx : ∀ y ∈ x, (y != c) = true := fun y hy => by
    simp only [bne_iff_ne]
    rintro rfl
    exact h hy
  rw [List.takeWhile_append_of_pos hx, List.takeWhile_cons_of_neg (by simp), List.append_nil]
theorem cutR_at {x T : List UInt8} {c : UInt8} (h : c ∉ x) : cutR (x ++ c :: T) c = T := by
  unfold cutR
  have hx : ∀ y ∈ x, (y != c) = true := fun y hy => by
    simp only [bne_iff_ne]
    rintro rfl
    exact h hy
  rw [List.dropWhile_append_of_pos hx, List.dropWhile_cons_of_neg (by simp)]
  rfl
theorem cutA_no {x : List UInt8} {c : UInt8} (h : c ∉ x) : cutA x c = x := by
  unfold cutA
  exact (tw_all fun y hy => by simp only [bne_iff_ne]; rintro rfl; exact h hy).1
theorem cutR_no {x : List UInt8} {c : UInt8} (h : c ∉ x) : cutR x c = [] := by
  unfold cutR
  rw [(tw_all fun y hy => by simp only [bne_iff_ne]; rintro rfl; exact h hy).2]
  rfl
theorem dec_no44 : ∀ i, i < 64 → (44 : UInt8) ∉ Lib.decDigits i := by decide +kernel
theorem dec_no45 : ∀ i, i < 64 → (45 : UInt8) ∉ Lib.decDigits i := by decide +kernel
theorem dec_num : ∀ i, i < 64 → numI (Lib.decDigits i) = i := by decide +kernel
theorem rtext_no44 {a b : Nat} (ha : a < 64) (hb : b < 64) : (44 : UInt8) ∉ rtext a b := by
  have h1 := dec_no44 a ha
  have h2 := dec_no44 b hb
  unfold rtext
  split
  · simp only [List.mem_append, List.mem_singleton, not_or]
    exact ⟨h1, by decide, h2⟩
  · exact h1
/-- What is left behind a text of a list. -/
def tailT (rest : List (List UInt8)) : List UInt8 := match rest with
  | [] => []
  | _ => 44 :: Lib.join rest [44]
theorem join_tail (x : List UInt8) (rest : List (List UInt8)) : Lib.join (x :: rest) [44] = x ++ tailT rest := by
  rw [Lib.join_cons]
  congr 1
  cases rest with
  | nil => rfl
  | cons y r =>
    show _ = 44 :: Lib.join (y :: r) [44]
    rw [Lib.join_cons]
    simp [Lib.joinTail]
theorem cutA_tail {x : List UInt8} {rest : List (List UInt8)} (h : (44 : UInt8) ∉ x) : cutA (x ++ tailT rest) 44 = x := by
  cases rest with
  | nil => simp only [tailT, List.append_nil]; exact cutA_no h
  | cons y r => exact cutA_at h
theorem cutR_tail {x : List UInt8} {rest : List (List UInt8)} (h : (44 : UInt8) ∉ x) : cutR (x ++ tailT rest) 44 = Lib.join rest [44] := by
  cases rest with
  | nil => simp only [tailT, List.append_nil]; rw [cutR_no h]; rfl
  | cons y r => exact cutR_at h
theorem orR_bit (m a : Nat) : ∀ k i, (orR m a k).testBit i = (m.testBit i || (decide (a ≤ i) && decide (i < a + k)))
  | 0, i => by
    have : (decide (a ≤ i) && decide (i < a + 0)) = false := by
      by_cases h : a ≤ i
      · rw [decide_eq_false (show ¬ i < a + 0 by omega), Bool.and_false]
      · rw [decide_eq_false h]; rfl
    rw [this, Bool.or_false]; rfl
  | k + 1, i => by
    unfold orR
    rw [Nat.testBit_or, orR_bit m a k i, Nat.one_shiftLeft, Nat.testBit_two_pow, Bool.or_assoc]
    congr 1
    by_cases h1 : a ≤ i <;> by_cases h2 : i < a + k <;> by_cases h3 : a + k = i <;> simp [h1, h2, h3] <;> omega
theorem g_of {a b : Nat} (ha : a < 64) (hb : b < 64) (hab : a ≤ b) (rest : List (List UInt8)) :
    gA (rtext a b ++ tailT rest) = a ∧ gB (rtext a b ++ tailT rest) = b ∧ gR (rtext a b ++ tailT rest) = Lib.join rest [44] := by
  have h44 := rtext_no44 ha hb
  have hc := cutA_tail (rest := rest) h44
  unfold gA gB gR
  rw [hc]
  by_cases h : a < b
  · have hr : rtext a b = Lib.decDigits a ++ 45 :: Lib.decDigits b := by unfold rtext; rw [if_pos h]; rfl
    have hm : (45 : UInt8) ∈ rtext a b := by rw [hr]; simp
    rw [if_pos hm, if_pos hm, if_pos hm, hr, List.append_assoc]
    simp only [List.cons_append]
    rw [cutA_at (dec_no45 a ha), cutR_at (dec_no45 a ha), cutA_tail (dec_no44 b hb), cutR_tail (dec_no44 b hb)]
    exact ⟨dec_num a ha, dec_num b hb, rfl⟩
  · obtain rfl : a = b := by omega
    have hr : rtext a a = Lib.decDigits a := by unfold rtext; rw [if_neg h]
    have hm : ¬ (45 : UInt8) ∈ rtext a a := by rw [hr]; exact dec_no45 a ha
    rw [if_neg hm, if_neg hm, if_neg hm, cutR_tail h44, hr]
    exact ⟨dec_num a ha, dec_num a ha, rfl⟩
theorem runTo_spec {m : Nat} : ∀ f c, m.testBit c = true → ∀ i, c ≤ i → i ≤ runTo m c f → m.testBit i = true
  | 0, c, hc, i, h1, h2 => by
    unfold runTo at h2
    rw [show i = c by omega]; exact hc
  | f + 1, c, hc, i, h1, h2 => by
    unfold runTo at h2
    by_cases hb : m.testBit (c + 1) = true
    · rw [if_pos hb] at h2
      by_cases e : i = c
      · rw [e]; exact hc
      · exact runTo_spec f (c + 1) hb i (by omega) h2
    · rw [if_neg hb] at h2
      rw [show i = c by omega]; exact hc
theorem rtext_ne {a b : Nat} (ha : a < 64) : rtext a b ≠ [] := by
  have := dec_pos a ha
  unfold rtext
  split
  · intro h
    have := congrArg List.length h
    simp at this
  · intro h; rw [h] at this; simp at this
theorem guess_runs {M : Nat} (hM : M < 18446744073709551616) : ∀ f c m, 64 - c < f → ∀ i,
    (guess (Lib.join (runs M f c) [44]).length m (Lib.join (runs M f c) [44])).testBit i = (m.testBit i || (decide (c ≤ i) && decide (i < 64) && M.testBit i))
  | 0, _, _, h, _ => by omega
  | f + 1, c, m, h, i => by
    unfold runs
    by_cases h64 : 64 ≤ c
    · rw [if_pos h64]
      have : (decide (c ≤ i) && decide (i < 64)) = false := by
        by_cases h : c ≤ i
        · rw [decide_eq_false (show ¬ i < 64 by omega), Bool.and_false]
        · rw [decide_eq_false h]; rfl
      rw [this, Bool.false_and, Bool.or_false, Lib.join_nil]
      rfl
    · rw [if_neg h64]
      by_cases hb : M.testBit c = true
      · rw [if_pos hb, join_tail]
        have hl := runTo_lt hM 64 c (by omega)
        have hge := runTo_ge M 64 c
        have hsp := runTo_spec (m := M) 64 c hb
        obtain ⟨l, hL⟩ : ∃ l, runTo M c 64 = l := ⟨_, rfl⟩
        rw [hL] at hl hge hsp ⊢
        obtain ⟨g1, g2, g3⟩ := g_of (show c < 64 by omega) hl hge (runs M f (l + 1))
        rw [guess_step (by intro h0; exact rtext_ne (by omega) (List.append_eq_nil_iff.1 h0).1) _ (Nat.le_refl _), g3]
        rw [guess_runs hM f (l + 1) _ (by omega) i]
        unfold gM
        rw [g1, g2, orR_bit, Bool.or_assoc]
        congr 1
        by_cases k1 : c ≤ i
        · by_cases k2 : i ≤ l
          · rw [hsp i k1 k2]
            simp only [decide_eq_true k1, decide_eq_true (show i < c + (l + 1 - c) by omega), decide_eq_true (show i < 64 by omega)]; simp
          · simp only [decide_eq_true k1, decide_eq_false (show ¬ i < c + (l + 1 - c) by omega), decide_eq_true (show l + 1 ≤ i by omega)]; simp
        · simp only [decide_eq_false k1, decide_eq_false (show ¬ l + 1 ≤ i by omega)]; simp
      · rw [if_neg hb, guess_runs hM f (c + 1) m (by omega) i]
        congr 1
        by_cases k1 : c = i
        · subst k1
          rw [Bool.eq_false_iff.2 hb, Bool.and_false, Bool.and_false]
        · congr 2
          by_cases k2 : c ≤ i
          · rw [decide_eq_true k2, decide_eq_true (by omega)]
          · rw [decide_eq_false k2, decide_eq_false (by omega)]
theorem mtext_head {m : Nat} (hm : m < 18446744073709551616) (h0 : m ≠ 0) : mtextB m ≠ [] ∧ mtextB m ≠ [45] := by
  unfold mtextB
  rw [if_neg h0]
  have : runs m 65 0 ≠ [] := fun h => h0 (by
    apply Nat.eq_of_testBit_eq
    intro i
    rw [Nat.zero_testBit]
    rcases Nat.lt_or_ge i 64 with h1 | h1
    · exact runs_nil 65 0 h (by omega) i (by omega) h1
    · exact Gf.bit_ge (n := 64) hm h1)
  have key : ∀ f c, ∀ x ∈ runs m f c, x ≠ [] ∧ x.head? ≠ some 45 := by
    intro f
    induction f with
    | zero => intro c x hx; cases hx
    | succ f ih =>
      intro c x hx
      unfold runs at hx
      split at hx
      · cases hx
      · rename_i hc
        split at hx
        · rcases List.mem_cons.1 hx with rfl | hx
          · refine ⟨rtext_ne (by omega), ?_⟩
            have hne := dec_pos c (by omega)
            have hno := dec_no45 c (by omega)
            intro hh
            apply hno
            unfold rtext at hh
            obtain ⟨y, r, hy⟩ := List.exists_cons_of_length_pos hne
            rw [hy] at hh ⊢
            split at hh <;> simp at hh <;> subst hh <;> simp
          · exact ih _ x hx
        · exact ih _ x hx
  obtain ⟨x, r, hx⟩ := List.exists_cons_of_ne_nil this
  obtain ⟨k1, k2⟩ := key 65 0 x (by rw [hx]; exact List.mem_cons_self)
  obtain ⟨y, r', hy⟩ := List.exists_cons_of_ne_nil k1
  rw [hx, join_tail, hy]
  refine ⟨by simp, fun hh => ?_⟩
  rw [hy] at k2
  simp at hh k2
  exact k2 hh.1
theorem readM_text {m : Nat} (hm : m < 18446744073709551616) : readM (mtextB m) = m := by
  by_cases h0 : m = 0
  · subst h0; rfl
  · unfold readM
    rw [if_neg (mtext_head hm h0).2]
    unfold mtextB
    rw [if_neg h0]
    apply Nat.eq_of_testBit_eq
    intro i
    rw [guess_runs hm 65 0 0 (by omega) i, Nat.zero_testBit, Bool.false_or, decide_eq_true (Nat.zero_le i), Bool.true_and]
    rcases Nat.lt_or_ge i 64 with h1 | h1
    · rw [decide_eq_true h1, Bool.true_and]
    · rw [Gf.bit_ge (n := 64) hm h1, Bool.and_false]
theorem readV_text {m : Nat} (hm : m < 18446744073709551616) : readV (mtextB m) = m ∧ readE (mtextB m) = 0 := by
  unfold readV readE
  rw [readM_text hm, if_pos rfl, if_pos rfl]
  exact ⟨rfl, rfl⟩
theorem mtext_inj {m o : Nat} (hm : m < 18446744073709551616) (ho : o < 18446744073709551616) (h : mtextB m = mtextB o) : m = o := by
  rw [← readM_text hm, h, readM_text ho]
theorem mtext_ne {m : Nat} (hm : m < 18446744073709551616) : mtextB m ≠ [] := by
  by_cases h0 : m = 0
  · subst h0; unfold mtextB; simp
  · exact (mtext_head hm h0).1
theorem mtext_small {m : Nat} (hm : m < 18446744073709551616) : (mtextB m).length < 1000000 := by
  unfold mtextB
  split
  · decide
  · have h1 := join_len 5 (runs m 65 0) [44] (runs_short hm 65 0)
    have h2 := Nat.mul_le_mul_right (5 + [(44 : UInt8)].length) (runs_len m 65 0)
    simp only [List.length_cons, List.length_nil] at h1 h2
    omega
end Go.Proofs.YtjpkldndeakkkaaDoor
