/- Texts of polynomials: how they are split into words, and what reading gives: plain mathematics. -/
import Derived.Test.YtidkjcflppbpdaaDoorText
import Derived.Lib.IndexLaws
namespace Go.Proofs.YtidkjcflppbpdaaDoor
open Go

/-- The words between the signs '+'. -/
def spl : List UInt8 → List (List UInt8)
  | [] => [[]]
  | c :: l => if c = 43 then [] :: spl l else
    match spl l with
    | [] => [[c]]
    | h :: t => (c :: h) :: t
theorem spl_ne : ∀ l, spl l ≠ []
  | [] => by simp [spl]
  | c :: l => by
    unfold spl
    split
    · simp
    · split <;> simp
theorem spl_at : ∀ (a b : List UInt8), (∀ c ∈ a, c ≠ 43) → spl (a ++ 43 :: b) = a :: spl b
  | [], b, _ => by simp [spl]
  | c :: a, b, h => by
    have ih := spl_at a b (fun x hx => h x (List.mem_cons_of_mem _ hx))
    show (if c = 43 then [] :: spl (a ++ 43 :: b) else match spl (a ++ 43 :: b) with | [] => [[c]] | h :: t => (c :: h) :: t) = _
    rw [if_neg (h c List.mem_cons_self), ih]
theorem spl_none : ∀ (a : List UInt8), (∀ c ∈ a, c ≠ 43) → spl a = [a]
  | [], _ => rfl
  | c :: a, h => by
    unfold spl
    rw [if_neg (h c List.mem_cons_self), spl_none a (fun x hx => h x (List.mem_cons_of_mem _ hx))]
theorem join_cons2 (x y : List UInt8) (r : List (List UInt8)) : Lib.join (x :: y :: r) [43] = x ++ 43 :: Lib.join (y :: r) [43] := by
  rw [Lib.join_cons, Lib.join_cons]
  simp [Lib.joinTail]
theorem join_spl : ∀ l, Lib.join (spl l) [43] = l
  | [] => by simp [spl, Lib.join_one]
  | c :: l => by
    have ih := join_spl l
    have hne := spl_ne l
    unfold spl
    by_cases h : c = 43
    · rw [if_pos h]
      cases e : spl l with
      | nil => exact absurd e hne
      | cons y r => rw [join_cons2, ← e, ih, h]; rfl
    · rw [if_neg h]
      cases e : spl l with
      | nil => exact absurd e hne
      | cons y r =>
        show Lib.join ((c :: y) :: r) [43] = _
        rw [e, Lib.join_cons] at ih
        rw [Lib.join_cons, List.cons_append, ih]
theorem spl_join : ∀ ws : List (List UInt8), ws ≠ [] → (∀ w ∈ ws, ∀ c ∈ w, c ≠ 43) → spl (Lib.join ws [43]) = ws
  | [], h, _ => absurd rfl h
  | [x], _, h => by rw [Lib.join_one]; exact spl_none x (h x List.mem_cons_self)
  | x :: y :: r, _, h => by
    rw [join_cons2, spl_at x _ (h x List.mem_cons_self), spl_join (y :: r) (by simp) (fun w hw => h w (List.mem_cons_of_mem _ hw))]

theorem termB_clean : ∀ i, i < 64 → ∀ c ∈ termB i, c ≠ 43 := by decide +kernel
theorem termB_inj : ∀ i, i < 64 → ∀ j, j < 64 → termB i = termB j → i = j := by decide +kernel
theorem termB_zero : ∀ i, i < 64 → termB i ≠ [48] := by decide +kernel
theorem termB_ne : ∀ i, i < 64 → termB i ≠ [] := by decide +kernel

/-- The greatest exponent below k whose term is w. -/
def findT (w : List UInt8) : Nat → Option Nat
  | 0 => none
  | k + 1 => if termB k = w then some k else findT w k
theorem findT_some (w : List UInt8) : ∀ k i, findT w k = some i → i < k ∧ termB i = w
  | k + 1, i, h => by
    unfold findT at h
    by_cases hk : termB k = w
    · rw [if_pos hk] at h
      cases h
      exact ⟨by omega, hk⟩
    · rw [if_neg hk] at h
      obtain ⟨a, b⟩ := findT_some w k i h
      exact ⟨by omega, b⟩
theorem findT_at : ∀ k i, k ≤ 64 → i < k → findT (termB i) k = some i
  | k + 1, i, h, hi => by
    unfold findT
    by_cases hk : termB k = termB i
    · rw [if_pos hk, termB_inj k (by omega) i (by omega) hk]
    · rw [if_neg hk]
      refine findT_at k i (by omega) ?_
      have : k ≠ i := fun e => hk (by rw [e])
      omega
/-- What reading words gives. -/
def readW : List (List UInt8) → Nat → Nat → Option Nat
  | [], p, _ => some p
  | w :: ws, p, last => match findT w last with
    | some i => readW ws (p ||| 1 <<< i) i
    | none => none

theorem expo_congr (p q : Nat) : ∀ k, (∀ i, i < k → p.testBit i = q.testBit i) → expo p k = expo q k
  | 0, _ => rfl
  | k + 1, h => by
    have h1 := expo_congr p q k (fun i hi => h i (by omega))
    have h2 := h k (by omega)
    by_cases hc : k < 64 ∧ q.testBit k = true
    · rw [expo, expo, dif_pos hc, dif_pos (show k < 64 ∧ p.testBit k = true from ⟨hc.1, by rw [h2]; exact hc.2⟩), h1]
    · rw [expo, expo, dif_neg hc, dif_neg (show ¬ (k < 64 ∧ p.testBit k = true) from fun e => hc ⟨e.1, by rw [← h2]; exact e.2⟩), h1]
theorem expo_skip (p k : Nat) (h : ∀ i, k ≤ i → p.testBit i = false) : ∀ d, expo p (k + d) = expo p k
  | 0 => rfl
  | d + 1 => by
    show expo p (k + d + 1) = _
    rw [expo, dif_neg (by rw [h (k + d) (by omega)]; simp), expo_skip p k h d]
theorem mod_or (p k : Nat) : p % 2 ^ (k + 1) = (if p.testBit k then 1 <<< k else 0) ||| p % 2 ^ k := by
  apply Nat.eq_of_testBit_eq
  intro i
  rw [Nat.testBit_or, Nat.testBit_mod_two_pow, Nat.testBit_mod_two_pow]
  by_cases hb : p.testBit k = true
  · rw [if_pos hb, one_shl_bit]
    by_cases hi : i = k
    · subst hi; simp [hb]
    · by_cases h2 : i < k
      · simp [hi, h2, show i < k + 1 by omega]
      · simp [hi, h2, show ¬ i < k + 1 by omega]
  · rw [if_neg hb, Nat.zero_testBit, Bool.false_or]
    by_cases hi : i = k
    · subst hi
      simp only [Bool.not_eq_true] at hb
      simp [hb]
    · by_cases h2 : i < k
      · simp [h2, show i < k + 1 by omega]
      · simp [h2, show ¬ i < k + 1 by omega]
theorem readW_expo (p : Nat) : ∀ k q last, k ≤ last → last ≤ 64 → readW ((expo p k).map fun x => termB x.val) q last = some (q ||| p % 2 ^ k)
  | 0, q, last, _, _ => by simp [expo, readW, Nat.mod_one]
  | k + 1, q, last, h1, h2 => by
    rw [expo, mod_or]
    by_cases hb : p.testBit k = true
    · rw [dif_pos ⟨by omega, hb⟩, if_pos hb]
      show (match findT (termB k) last with | some i => readW _ (q ||| 1 <<< i) i | none => none) = _
      rw [findT_at last k h2 (by omega)]
      show readW _ (q ||| 1 <<< k) k = _
      rw [readW_expo p k _ k (Nat.le_refl _) (by omega), Nat.or_assoc]
    · rw [dif_neg (fun h => hb h.2), if_neg hb, Nat.zero_or]
      exact readW_expo p k q last (by omega) h2
theorem readW_some : ∀ ws q last p, last ≤ 64 → readW ws q last = some p → ∃ r, r < 2 ^ last ∧ p = q ||| r ∧ ws = (expo r last).map fun x => termB x.val
  | [], q, last, p, hl, h => by
    refine ⟨0, Nat.two_pow_pos _, by cases h; simp, ?_⟩
    have := expo_skip 0 0 (fun i _ => Nat.zero_testBit i) last
    rw [Nat.zero_add] at this
    rw [this]; rfl
  | w :: ws, q, last, p, hl, h => by
    unfold readW at h
    cases hf : findT w last with
    | none => rw [hf] at h; cases h
    | some i =>
      rw [hf] at h
      obtain ⟨hi, ht⟩ := findT_some w last i hf
      obtain ⟨r, hr, hp, hw⟩ := readW_some ws _ i p (by omega) h
      have hbig : ∀ j, (1 <<< i ||| r).testBit j = if j = i then true else r.testBit j := fun j => by
        rw [Nat.testBit_or, one_shl_bit]
        by_cases e : j = i <;> simp [e]
      have hrb : ∀ j, i ≤ j → r.testBit j = false := fun j hj => Gf.bit_ge hr hj
      refine ⟨1 <<< i ||| r, ?_, by rw [hp, Nat.or_assoc], ?_⟩
      · refine Gf.lt_of_bits fun j hj => ?_
        rw [hbig, if_neg (by omega)]
        exact hrb j (by omega)
      · have e1 := expo_skip (1 <<< i ||| r) (i + 1) (fun j hj => by rw [hbig, if_neg (by omega)]; exact hrb j (by omega)) (last - (i + 1))
        rw [show i + 1 + (last - (i + 1)) = last by omega] at e1
        rw [e1, expo, dif_pos ⟨by omega, by rw [hbig, if_pos rfl]⟩, expo_congr _ r i (fun j hj => by rw [hbig, if_neg (by omega)]), List.map_cons, ← hw, ht]

theorem expo_map_clean (p : Nat) : ∀ w ∈ (expo p 64).map (fun x => termB x.val), ∀ c ∈ w, c ≠ 43 := by
  intro w hw c hc
  obtain ⟨x, _, rfl⟩ := List.mem_map.1 hw
  exact termB_clean x.val x.isLt c hc
theorem spl_text {p : Nat} (hp : p < 18446744073709551616) (h0 : p ≠ 0) : spl (textB p) = (expo p 64).map fun x => termB x.val := by
  unfold textB
  rw [if_neg h0]
  refine spl_join _ (fun e => ?_) (expo_map_clean p)
  exact h0 (expo_nil p 64 (Nat.le_refl _) (List.map_eq_nil_iff.1 e) hp)
theorem readW_text {p : Nat} (hp : p < 18446744073709551616) (h0 : p ≠ 0) : readW (spl (textB p)) 0 64 = some p := by
  rw [spl_text hp h0, readW_expo p 64 0 64 (Nat.le_refl _) (Nat.le_refl _), Nat.zero_or]
  congr 1
  exact Nat.mod_eq_of_lt hp
theorem text_readW {l : List UInt8} {p : Nat} (h : readW (spl l) 0 64 = some p) : p ≠ 0 ∧ p < 18446744073709551616 ∧ textB p = l := by
  obtain ⟨r, hr, hp, hw⟩ := readW_some (spl l) 0 64 p (Nat.le_refl _) h
  rw [Nat.zero_or] at hp
  subst hp
  have h0 : p ≠ 0 := fun e => by
    subst e
    have := expo_skip 0 0 (fun i _ => Nat.zero_testBit i) 64
    rw [Nat.zero_add] at this
    rw [this] at hw
    exact spl_ne l hw
  refine ⟨h0, hr, ?_⟩
  unfold textB
  rw [if_neg h0, ← hw, join_spl]
theorem readW_zero : readW (spl [48]) 0 64 = none := by decide +kernel

theorem textB_len (p : Nat) : (textB p).length ≤ 320 := by
  unfold textB
  split
  · decide
  · have h := join_len 4 ((expo p 64).map fun x => termB x.val) [43] (fun w hw => by
      obtain ⟨x, _, rfl⟩ := List.mem_map.1 hw
      exact term_len x.val x.isLt)
    rw [List.length_map] at h
    have := expo_len p 64
    simp at h
    omega

/-- What Read gives: the number, and the number of the error. -/
def readV (l : List UInt8) : Nat := if 400 < l.length then 0 else if l = [48] then 0 else (readW (spl l) 0 64).getD 0
def readE (l : List UInt8) : Int := if 400 < l.length then 3 else if l = [48] then 0 else if (readW (spl l) 0 64).isSome then 0 else 30
theorem read_text {p : Nat} (hp : p < 18446744073709551616) : readV (textB p) = p ∧ readE (textB p) = 0 := by
  have hl := textB_len p
  have hl2 : ¬ 400 < (textB p).length := Nat.not_lt.2 (Nat.le_trans hl (by decide))
  unfold readV readE
  by_cases h0 : p = 0
  · subst h0
    exact ⟨rfl, rfl⟩
  · have h := readW_text hp h0
    have hne : textB p ≠ [48] := fun e => by rw [e, readW_zero] at h; cases h
    rw [if_neg hl2, if_neg hl2, if_neg hne, if_neg hne, h]
    exact ⟨rfl, rfl⟩
theorem textB_inj {p q : Nat} (hp : p < 18446744073709551616) (hq : q < 18446744073709551616) (h : textB p = textB q) : p = q := by
  rw [← (read_text hp).1, h, (read_text hq).1]
theorem text_read {l : List UInt8} (h : readE l = 0) : textB (readV l) = l := by
  unfold readE at h
  unfold readV
  by_cases h1 : 400 < l.length
  · rw [if_pos h1] at h; cases h
  · rw [if_neg h1] at h ⊢
    by_cases h2 : l = [48]
    · rw [if_pos h2, h2]; rfl
    · rw [if_neg h2] at h ⊢
      cases e : readW (spl l) 0 64 with
      | none => rw [e] at h; cases h
      | some p => exact (text_readW e).2.2
theorem read_none {l : List UInt8} (h : readE l ≠ 0) : readV l = 0 ∧ (readE l = 30 ∨ readE l = 3) := by
  unfold readE at h ⊢
  unfold readV
  by_cases h1 : 400 < l.length
  · rw [if_pos h1, if_pos h1]; exact ⟨rfl, .inr rfl⟩
  · rw [if_neg h1] at h ⊢
    rw [if_neg h1]
    by_cases h2 : l = [48]
    · rw [if_pos h2] at h; exact absurd rfl h
    · rw [if_neg h2] at h ⊢
      rw [if_neg h2]
      cases e : readW (spl l) 0 64 with
      | none => exact ⟨rfl, .inl rfl⟩
      | some p => rw [e] at h; exact absurd rfl h
theorem readV_lt (l : List UInt8) : readV l < 18446744073709551616 := by
  unfold readV
  split
  · decide
  · split
    · decide
    · cases e : readW (spl l) 0 64 with
      | none => decide
      | some p => exact (text_readW e).2.1

/-- The exponents below k whose term is w, as a number. -/
def orT (w : List UInt8) : Nat → Nat
  | 0 => 0
  | k + 1 => if termB k = w then orT w k ||| 1 <<< k else orT w k
theorem orT_lt (w : List UInt8) : ∀ k, orT w k < 2 ^ k
  | 0 => Nat.one_pos
  | k + 1 => by
    have := orT_lt w k
    have hp : 2 ^ (k + 1) = 2 * 2 ^ k := by rw [Nat.pow_succ]; omega
    unfold orT
    split
    · refine Nat.or_lt_two_pow (by omega) ?_
      rw [Nat.one_shiftLeft]
      omega
    · omega
theorem orT_none (w : List UInt8) (h : ∀ i, i < 64 → termB i ≠ w) : ∀ k, k ≤ 64 → orT w k = 0
  | 0, _ => rfl
  | k + 1, hk => by
    unfold orT
    rw [if_neg (h k (by omega)), orT_none w h k (by omega)]
theorem orT_at (i : Nat) (hi : i < 64) : ∀ k, k ≤ 64 → orT (termB i) k = if i < k then 1 <<< i else 0
  | 0, _ => rfl
  | k + 1, hk => by
    unfold orT
    rw [orT_at i hi k (by omega)]
    by_cases e : k = i
    · subst e
      rw [if_pos rfl, if_neg (by omega), if_pos (by omega), Nat.zero_or]
    · rw [if_neg (fun h => e (termB_inj k (by omega) i hi h))]
      by_cases h2 : i < k
      · rw [if_pos h2, if_pos (by omega)]
      · rw [if_neg h2, if_neg (by omega)]
/-- All words together. -/
def orW : List (List UInt8) → Nat → Nat
  | [], q => q
  | w :: ws, q => orW ws (q ||| orT w 64)
theorem orW_append : ∀ a b q, orW (a ++ b) q = orW b (orW a q)
  | [], _, _ => rfl
  | _ :: ws, b, _ => orW_append ws b _
theorem orW_lt : ∀ ws q, q < 18446744073709551616 → orW ws q < 18446744073709551616
  | [], _, h => h
  | w :: ws, _, h => orW_lt ws _ (Nat.or_lt_two_pow (n := 64) h (orT_lt w 64))
theorem orW_expo (p : Nat) : ∀ k q, k ≤ 64 → orW ((expo p k).map fun x => termB x.val) q = q ||| p % 2 ^ k
  | 0, q, _ => by simp [expo, orW, Nat.mod_one]
  | k + 1, q, h => by
    rw [expo, mod_or]
    by_cases hb : p.testBit k = true
    · rw [dif_pos ⟨by omega, hb⟩, if_pos hb]
      show orW _ (q ||| orT (termB k) 64) = _
      rw [orT_at k (by omega) 64 (Nat.le_refl _), if_pos (by omega), orW_expo p k _ (by omega), Nat.or_assoc]
    · rw [dif_neg (fun h => hb h.2), if_neg hb, Nat.zero_or]
      exact orW_expo p k q (by omega)
/-- The reference's way of reading gives the same. -/
theorem read_ref {l : List UInt8} (hl : l.length ≤ 400) :
    (textB (orW (spl l) 0) = l → readV l = orW (spl l) 0 ∧ readE l = 0) ∧ (textB (orW (spl l) 0) ≠ l → readV l = 0 ∧ readE l = 30) := by
  have hP := orW_lt (spl l) 0 (by decide)
  refine ⟨fun h => ?_, fun h => ?_⟩
  · have := read_text hP
    rw [h] at this
    exact this
  · have hE : readE l ≠ 0 := fun e => by
      refine h ?_
      have h2 := text_read e
      have hV := readV_lt l
      by_cases h0 : readV l = 0
      · rw [h0] at h2
        rw [← h2]
        exact (by decide +kernel : textB (orW (spl (textB 0)) 0) = textB 0)
      · have h3 := spl_text hV h0
        rw [h2] at h3
        have h4 := orW_expo (readV l) 64 0 (Nat.le_refl _)
        rw [← h3, Nat.zero_or, Nat.mod_eq_of_lt hV] at h4
        rw [h4, h2]
    obtain ⟨a, b⟩ := read_none hE
    refine ⟨a, ?_⟩
    unfold readE at b ⊢
    rw [if_neg (by omega)] at b ⊢
    rcases b with b | b
    · exact b
    · split at b
      · cases b
      · split at b <;> cases b
end Go.Proofs.YtidkjcflppbpdaaDoor
