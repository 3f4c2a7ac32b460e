/- Plain laws about the burst of some bits: no program in sight. Plain laws about bits of a place in any order: no program in sight. -/
import Derived.Test.YtmjigpnpcacefaaDoorAwakeD
import Derived.Test.YtmjigpnpcacefaaDoorDmgP
import Derived.Test.YtmjigpnpcacefaaDoorOwnV
namespace Go.Proofs.YtmjigpnpcacefaaDoor
open Go Go.RowKit Go.Shelf

theorem bang_get (s : List Int) (j : Nat) : s.toArray[j]! = s[j]?.getD 0 := by
  simp only [List.getElem!_toArray, List.getElem!_eq_getElem?_getD]
  rfl
theorem keeps_get (s : List Int) (j : Nat) : Lib.keeps s.toArray j = decide (j = 0 ∨ s[j]?.getD 0 ≠ s[j - 1]?.getD 0) := by
  unfold Lib.keeps
  rw [bang_get, bang_get]
/-- In a sorted list nothing goes just where none is twice. -/
theorem comp_nodup {s : List Int} (hs : s.Pairwise (· ≤ ·)) : (Lib.compact s).length < s.length ↔ ¬ s.Nodup := by
  have hlen : (Lib.compact s).length = ((List.range s.length).filter (Lib.keeps s.toArray)).length := by
    unfold Lib.compact Lib.compactUpTo
    rw [List.length_map]
  have hrl : (List.range s.length).length = s.length := List.length_range
  constructor
  · intro h hn
    have : ((List.range s.length).filter (Lib.keeps s.toArray)).length = (List.range s.length).length := by
      rw [List.length_filter_eq_length_iff]
      intro j hj
      rw [List.mem_range] at hj
      rw [keeps_get]
      apply decide_eq_true
      by_cases h0 : j = 0
      · exact .inl h0
      · right
        intro e
        have h1 := List.pairwise_iff_getElem.1 hn (j - 1) j (by omega) hj (by omega)
        rw [List.getElem?_eq_getElem hj, List.getElem?_eq_getElem (show j - 1 < s.length by omega)] at e
        exact h1 e.symm
    omega
  · intro hn
    apply Classical.byContradiction
    intro hge
    have hle := List.length_filter_le (Lib.keeps s.toArray) (List.range s.length)
    have hall := List.length_filter_eq_length_iff.1 (show ((List.range s.length).filter (Lib.keeps s.toArray)).length = (List.range s.length).length by omega)
    apply hn
    rw [List.Nodup, List.pairwise_iff_getElem]
    intro i j hi hj hij e
    have h1 := hall j (List.mem_range.2 hj)
    rw [keeps_get] at h1
    have h2 := of_decide_eq_true h1
    have h3 := pw_get hs (show j - 1 ≤ j by omega) hj
    have h4 := pw_get hs (show i ≤ j - 1 by omega) (show j - 1 < s.length by omega)
    have e1 : s[i]?.getD 0 = s[j]?.getD 0 := by rw [List.getElem?_eq_getElem hi, List.getElem?_eq_getElem hj]; exact e
    omega
theorem mem_srt {l : List Int} {k : Int} : k ∈ srt l ↔ k ∈ l := (srt_perm l).mem_iff
theorem mem_get {s : List Int} {k : Int} (h : k ∈ s) : ∃ i, i < s.length ∧ s[i]?.getD 0 = k := by
  obtain ⟨i, hi, e⟩ := List.mem_iff_getElem.1 h
  exact ⟨i, hi, by rw [List.getElem?_eq_getElem hi]; exact e⟩
theorem srt_min {l : List Int} {m : Int} (hm : m ∈ l) (hle : ∀ k ∈ l, m ≤ k) : (srt l)[0]?.getD 0 = m := by
  obtain ⟨i, hi, e⟩ := mem_get (mem_srt.2 hm)
  have h1 := pw_get (srt_sorted l) (Nat.zero_le i) hi
  have h2 := hle _ (mem_srt.1 (get_mem (show 0 < (srt l).length by omega)))
  omega
theorem srt_max {l : List Int} {m : Int} (hm : m ∈ l) (hle : ∀ k ∈ l, k ≤ m) : (srt l)[(srt l).length - 1]?.getD 0 = m := by
  obtain ⟨i, hi, e⟩ := mem_get (mem_srt.2 hm)
  have h1 := pw_get (srt_sorted l) (show i ≤ (srt l).length - 1 by omega) (by omega)
  have h2 := hle _ (mem_srt.1 (get_mem (show (srt l).length - 1 < (srt l).length by omega)))
  omega
theorem srt_pos {l : List Int} (h : l ≠ []) : 0 < (srt l).length := by
  rw [srt_length]; exact List.length_pos_iff.2 h
theorem of_arg (l : List Int) (h : l = [] ∨ ∃ k ∈ l, k < 0) : ofE l = 2 := by
  unfold ofE ofS
  refine if_pos ?_
  rcases h with rfl | ⟨k, hk, h0⟩
  · left; rw [srt_length]; rfl
  · right
    obtain ⟨i, hi, e⟩ := mem_get (mem_srt.2 hk)
    have h1 := pw_get (srt_sorted l) (Nat.zero_le i) hi
    omega
theorem of_not (l : List Int) (hne : l ≠ []) (h0 : ∀ k ∈ l, 0 ≤ k) : ¬ ((srt l).length = 0 ∨ (srt l)[0]?.getD 0 < 0) := by
  have hp := srt_pos hne
  rintro (h | h)
  · omega
  · have := h0 _ (mem_srt.1 (get_mem hp)); omega
theorem srt_nodup {l : List Int} : (srt l).Nodup ↔ l.Nodup := (srt_perm l).nodup_iff
theorem of_twice (l : List Int) (hne : l ≠ []) (h0 : ∀ k ∈ l, 0 ≤ k) (hd : ¬ l.Nodup) : ofE l = 131 := by
  unfold ofE ofS
  rw [if_neg (of_not l hne h0), if_pos ((comp_nodup (srt_sorted l)).2 (fun h => hd (srt_nodup.1 h)))]
theorem of_long (l : List Int) (h0 : ∀ k ∈ l, 0 ≤ k) (hd : l.Nodup) (a b : Int) (ha : a ∈ l) (hb : b ∈ l) (h : 32 ≤ a - b) : ofE l = 3 := by
  have hne : l ≠ [] := List.ne_nil_of_mem ha
  unfold ofE ofS
  rw [if_neg (of_not l hne h0), if_neg (fun h => (comp_nodup (srt_sorted l)).1 h (srt_nodup.2 hd)), if_pos]
  obtain ⟨i, hi, e1⟩ := mem_get (mem_srt.2 ha)
  obtain ⟨j, hj, e2⟩ := mem_get (mem_srt.2 hb)
  have h1 := pw_get (srt_sorted l) (show i ≤ (srt l).length - 1 by omega) (by omega)
  have h2 := pw_get (srt_sorted l) (Nat.zero_le j) hj
  omega
theorem of_fine (l : List Int) (hne : l ≠ []) (h0 : ∀ k ∈ l, 0 ≤ k) (hd : l.Nodup) (h : ∀ a ∈ l, ∀ b ∈ l, a - b < 32) : ofE l = 0 := by
  have hp := srt_pos hne
  unfold ofE ofS
  rw [if_neg (of_not l hne h0), if_neg (fun h => (comp_nodup (srt_sorted l)).1 h (srt_nodup.2 hd)), if_neg]
  have := h _ (mem_srt.1 (get_mem (show (srt l).length - 1 < (srt l).length by omega))) _ (mem_srt.1 (get_mem hp))
  omega
theorem orBits_bit (s : List Int) (b : Int) (i : Nat) : ∀ k, (orBits s b k).testBit i = true ↔ ∃ j, j < k ∧ (s[j]?.getD 0 - b).toNat = i
  | 0 => by simp [orBits]
  | k + 1 => by
    unfold orBits
    rw [Nat.testBit_or, Bool.or_eq_true, orBits_bit s b i k, Nat.testBit_two_pow, decide_eq_true_iff]
    constructor
    · rintro (⟨j, hj, e⟩ | e)
      · exact ⟨j, by omega, e⟩
      · exact ⟨k, by omega, e⟩
    · rintro ⟨j, hj, e⟩
      by_cases h : j = k
      · subst h; exact .inr e
      · exact .inl ⟨j, by omega, e⟩
/-- Where bits make a burst: its least one, and which it has. -/
theorem of_vals (l : List Int) (h : ofE l = 0) (m : Int) (hm : m ∈ l) (hle : ∀ k ∈ l, m ≤ k) : ofA l = m ∧ ∀ i : Nat, (ofB l).testBit i = true ↔ m + (i : Int) ∈ l := by
  have e := srt_min hm hle
  refine ⟨?_, fun i => ?_⟩
  · unfold ofA; rw [if_pos h, e]
  · unfold ofB
    rw [if_pos h, orBits_bit, e]
    constructor
    · rintro ⟨j, hj, e2⟩
      have h1 := mem_srt.1 (get_mem hj)
      have h2 := hle _ h1
      rwa [show m + (i : Int) = (srt l)[j]?.getD 0 by omega]
    · intro hmem
      obtain ⟨j, hj, e2⟩ := mem_get (mem_srt.2 hmem)
      exact ⟨j, hj, by omega⟩
theorem of_zero_bound (l : List Int) (h : ofE l = 0) : l ≠ [] ∧ (∀ k ∈ l, 0 ≤ k) ∧ l.Nodup ∧ ∀ a ∈ l, ∀ b ∈ l, a - b < 32 := by
  have h1 : l ≠ [] := fun e => by rw [of_arg l (.inl e)] at h; cases h
  have h2 : ∀ k ∈ l, 0 ≤ k := fun k hk => by
    apply Classical.byContradiction; intro hn
    rw [of_arg l (.inr ⟨k, hk, by omega⟩)] at h; cases h
  have h3 : l.Nodup := by
    apply Classical.byContradiction; intro hn
    rw [of_twice l h1 h2 hn] at h; cases h
  refine ⟨h1, h2, h3, fun a ha b hb => ?_⟩
  apply Classical.byContradiction; intro hn
  rw [of_long l h2 h3 a b ha hb (by omega)] at h; cases h
/-- A burst is made of its bits again, in whatever order. -/
theorem of_hits (l : List Int) (X P : Nat) (hP : P < 4294967296) (ho : P % 2 = 1) (hp : l.Perm (ints (hits X P))) : ofE l = 0 ∧ ofA l = (X : Int) ∧ ofB l = P := by
  have hmem : ∀ k : Int, k ∈ l ↔ ∃ j ∈ hits X P, k = (j : Int) := fun k => by
    rw [hp.mem_iff]
    unfold ints
    rw [List.mem_map]
    constructor
    · rintro ⟨j, hj, e⟩; exact ⟨j, hj, e.symm⟩
    · rintro ⟨j, hj, e⟩; exact ⟨j, hj, e.symm⟩
  have hpl := plen_le32 hP
  have hX : (X : Int) ∈ l := (hmem _).2 ⟨X, (hits_mem X P X).2 ⟨Nat.le_refl _, by rw [Nat.sub_self, Nat.testBit_zero, ho]; rfl⟩, rfl⟩
  have hle : ∀ k ∈ l, (X : Int) ≤ k := fun k hk => by
    obtain ⟨j, hj, rfl⟩ := (hmem k).1 hk
    have := ((hits_mem X P j).1 hj).1
    omega
  have hlt : ∀ k ∈ l, k < (X : Int) + 32 := fun k hk => by
    obtain ⟨j, hj, rfl⟩ := (hmem k).1 hk
    have := hits_lt X P j hj
    omega
  have h0 : ofE l = 0 := of_fine l (List.ne_nil_of_mem hX) (fun k hk => by have := hle k hk; omega) (hp.nodup_iff.2 (ints_nodup (rise_nodup (hits_rise X P)))) (fun a ha b hb => by
    have := hlt a ha
    have := hle b hb
    omega)
  obtain ⟨h1, h2⟩ := of_vals l h0 X hX hle
  refine ⟨h0, h1, Nat.eq_of_testBit_eq (fun i => ?_)⟩
  rw [Bool.eq_iff_iff, h2 i, hmem]
  constructor
  · rintro ⟨j, hj, e⟩
    have := ((hits_mem X P j).1 hj).2
    rwa [show j - X = i by omega] at this
  · intro hb
    exact ⟨X + i, (hits_mem X P _).2 ⟨by omega, by rwa [show X + i - X = i by omega]⟩, by omega⟩
end Go.Proofs.YtmjigpnpcacefaaDoor
namespace Go.Proofs.YtmjigpnpcacefaaDoor
open Go Go.RowKit Go.Shelf

def leastN (ks : List Nat) : Nat := ks.foldl min 40
def mostN (ks : List Nat) : Nat := ks.foldl max 0
theorem leastN_snoc (ks : List Nat) (k : Nat) : leastN (ks ++ [k]) = min (leastN ks) k := by unfold leastN; rw [List.foldl_append]; rfl
theorem mostN_snoc (ks : List Nat) (k : Nat) : mostN (ks ++ [k]) = max (mostN ks) k := by unfold mostN; rw [List.foldl_append]; rfl
theorem leastN_le (ks : List Nat) : leastN ks ≤ 40 := by
  unfold leastN
  have : ∀ (ks : List Nat) (a : Nat), ks.foldl min a ≤ a := by
    intro ks
    induction ks with
    | nil => intro a; exact Nat.le_refl _
    | cons k ks ih => intro a; rw [List.foldl_cons]; exact Nat.le_trans (ih _) (Nat.min_le_left _ _)
  exact this ks 40
theorem least_of (ks : List Nat) : ∀ a : Nat, (ks.foldl min a = a ∨ ks.foldl min a ∈ ks) ∧ ks.foldl min a ≤ a ∧ ∀ k ∈ ks, ks.foldl min a ≤ k := by
  induction ks with
  | nil => intro a; exact ⟨.inl rfl, Nat.le_refl _, fun k h => by cases h⟩
  | cons x ks ih =>
    intro a
    rw [List.foldl_cons]
    obtain ⟨h1, h2, h3⟩ := ih (min a x)
    refine ⟨?_, by omega, fun k hk => ?_⟩
    · rcases h1 with h1 | h1
      · rw [h1]
        rcases Nat.le_total a x with h | h
        · left; omega
        · right; rw [Nat.min_eq_right h]; exact List.mem_cons_self
      · exact .inr (List.mem_cons_of_mem _ h1)
    · rcases List.mem_cons.1 hk with rfl | hk
      · omega
      · exact h3 k hk
theorem most_of (ks : List Nat) : ∀ a : Nat, (ks.foldl max a = a ∨ ks.foldl max a ∈ ks) ∧ a ≤ ks.foldl max a ∧ ∀ k ∈ ks, k ≤ ks.foldl max a := by
  induction ks with
  | nil => intro a; exact ⟨.inl rfl, Nat.le_refl _, fun k h => by cases h⟩
  | cons x ks ih =>
    intro a
    rw [List.foldl_cons]
    obtain ⟨h1, h2, h3⟩ := ih (max a x)
    refine ⟨?_, by omega, fun k hk => ?_⟩
    · rcases h1 with h1 | h1
      · rw [h1]
        rcases Nat.le_total x a with h | h
        · left; omega
        · right; rw [Nat.max_eq_right h]; exact List.mem_cons_self
      · exact .inr (List.mem_cons_of_mem _ h1)
    · rcases List.mem_cons.1 hk with rfl | hk
      · omega
      · exact h3 k hk
theorem least_mem {ks : List Nat} (h : ∀ k ∈ ks, k < 40) (hne : ks ≠ []) : leastN ks ∈ ks ∧ ∀ k ∈ ks, leastN ks ≤ k := by
  obtain ⟨h1, _, h3⟩ := least_of ks 40
  refine ⟨h1.resolve_left (fun e => ?_), h3⟩
  obtain ⟨k, hk⟩ := List.exists_mem_of_ne_nil ks hne
  have := h3 k hk
  have := h k hk
  omega
theorem most_mem {ks : List Nat} (hne : ks ≠ []) : mostN ks ∈ ks ∧ ∀ k ∈ ks, k ≤ mostN ks := by
  obtain ⟨h1, _, h3⟩ := most_of ks 0
  refine ⟨?_, h3⟩
  rcases h1 with e | h1
  · obtain ⟨k, hk⟩ := List.exists_mem_of_ne_nil ks hne
    have := h3 k hk
    have e2 : k = ks.foldl max 0 := by omega
    unfold mostN
    rw [← e2]; exact hk
  · exact h1
theorem nodup_snoc (ks : List Nat) (k : Nat) : (ks ++ [k]).Nodup ↔ ks.Nodup ∧ k ∉ ks := by
  rw [List.nodup_append]
  constructor
  · rintro ⟨h1, _, h3⟩
    exact ⟨h1, fun hk => h3 k hk k List.mem_cons_self rfl⟩
  · rintro ⟨h1, h2⟩
    refine ⟨h1, List.nodup_cons.2 ⟨by simp, List.nodup_nil⟩, fun a ha b hb e => ?_⟩
    rw [List.mem_singleton] at hb
    rw [e, hb] at ha
    exact h2 ha
/-- The bits from a place on. -/
def fromX (X : Nat) (ks : List Nat) : List Int := ks.map fun (k : Nat) => ((X : Int) + (k : Int))
theorem fromX_snoc (X : Nat) (ks : List Nat) (k : Nat) : fromX X (ks ++ [k]) = fromX X ks ++ [(X : Int) + (k : Int)] := by unfold fromX; rw [List.map_append]; rfl
theorem fromX_length (X : Nat) (ks : List Nat) : (fromX X ks).length = ks.length := by simp [fromX]
theorem fromX_mem {X : Nat} {ks : List Nat} {i : Nat} : ((X : Int) + (i : Int)) ∈ fromX X ks ↔ i ∈ ks := by
  unfold fromX
  rw [List.mem_map]
  constructor
  · rintro ⟨k, hk, e⟩
    rwa [show i = k by omega]
  · intro h; exact ⟨i, h, rfl⟩
theorem fromX_of {X : Nat} {ks : List Nat} {a : Int} (h : a ∈ fromX X ks) : ∃ k ∈ ks, a = (X : Int) + (k : Int) := by
  unfold fromX at h
  obtain ⟨k, hk, e⟩ := List.mem_map.1 h
  exact ⟨k, hk, e.symm⟩
theorem fromX_nodup {X : Nat} {ks : List Nat} : (fromX X ks).Nodup ↔ ks.Nodup := by
  unfold fromX
  rw [List.Nodup, List.pairwise_map, List.Nodup]
  constructor
  · exact fun h => h.imp (fun h e => h (by rw [e]))
  · exact fun h => h.imp (fun h e => h (by omega))
theorem fromX_bound {X : Nat} {ks : List Nat} (hX : X < 4611686018427387904) (h : ∀ k ∈ ks, k < 40) : ∀ k ∈ fromX X ks, -9223372036854775808 ≤ k ∧ k ≤ 9223372036854775807 := by
  intro a ha
  obtain ⟨k, hk, rfl⟩ := fromX_of ha
  have := h k hk
  omega
theorem from_none (X : Nat) : ofE (fromX X []) = 2 ∧ ofA (fromX X []) = 0 ∧ ofB (fromX X []) = 0 := by
  have h : ofE (fromX X []) = 2 := of_arg _ (.inl rfl)
  unfold ofA ofB
  rw [h]
  exact ⟨rfl, rfl, rfl⟩
theorem from_ne {X : Nat} {ks : List Nat} (hne : ks ≠ []) : fromX X ks ≠ [] := by
  intro e
  have := congrArg List.length e
  rw [fromX_length] at this
  exact hne (List.length_eq_zero_iff.1 this)
theorem from_nonneg {X : Nat} {ks : List Nat} : ∀ k ∈ fromX X ks, 0 ≤ k := by
  intro a ha
  obtain ⟨k, _, rfl⟩ := fromX_of ha
  omega
theorem from_twice {X : Nat} {ks : List Nat} (h : ¬ ks.Nodup) : ofE (fromX X ks) = 131 := by
  have hne : ks ≠ [] := fun e => by rw [e] at h; exact h List.nodup_nil
  exact of_twice _ (from_ne hne) from_nonneg (fun hn => h (fromX_nodup.1 hn))
theorem from_long {X : Nat} {ks : List Nat} (hk : ∀ k ∈ ks, k < 40) (hne : ks ≠ []) (hd : ks.Nodup) (h : 32 ≤ mostN ks - leastN ks) : ofE (fromX X ks) = 3 := by
  have h1 := (least_mem hk hne).1
  have h2 := (most_mem hne).1
  exact of_long _ from_nonneg (fromX_nodup.2 hd) _ _ (fromX_mem.2 h2) (fromX_mem.2 h1) (by omega)
theorem from_fine {X : Nat} {ks : List Nat} (hk : ∀ k ∈ ks, k < 40) (hne : ks ≠ []) (hd : ks.Nodup) (h : mostN ks - leastN ks < 32) :
    ofE (fromX X ks) = 0 ∧ ofA (fromX X ks) = (X : Int) + (leastN ks : Int) ∧ (∀ i : Nat, (ofB (fromX X ks)).testBit i = decide (leastN ks + i ∈ ks)) ∧ ofB (fromX X ks) < 4294967296 ∧ lenB (ofA (fromX X ks)) (ofB (fromX X ks)) = mostN ks - leastN ks + 1 := by
  obtain ⟨h1, h2⟩ := least_mem hk hne
  obtain ⟨h3, h4⟩ := most_mem hne
  have h0 : ofE (fromX X ks) = 0 := of_fine _ (from_ne hne) from_nonneg (fromX_nodup.2 hd) (fun a ha b hb => by
    obtain ⟨x, hx, rfl⟩ := fromX_of ha
    obtain ⟨y, hy, rfl⟩ := fromX_of hb
    have := h4 x hx
    have := h2 y hy
    omega)
  obtain ⟨hA, hB⟩ := of_vals _ h0 ((X : Int) + (leastN ks : Int)) (fromX_mem.2 h1) (fun a ha => by
    obtain ⟨x, hx, rfl⟩ := fromX_of ha
    have := h2 x hx
    omega)
  have hbit : ∀ i : Nat, (ofB (fromX X ks)).testBit i = decide (leastN ks + i ∈ ks) := fun i => by
    rw [Bool.eq_iff_iff, hB i, show (X : Int) + (leastN ks : Int) + (i : Int) = (X : Int) + ((leastN ks + i : Nat) : Int) by omega, fromX_mem, decide_eq_true_iff]
  have hhi : ∀ i : Nat, mostN ks - leastN ks < i → (ofB (fromX X ks)).testBit i = false := fun i hi => by
    rw [hbit i]
    apply decide_eq_false
    intro hm
    have := h4 _ hm
    omega
  have hlt : ofB (fromX X ks) < 2 ^ (mostN ks - leastN ks + 1) := Nat.lt_pow_two_of_testBit _ (fun i hi => hhi i (by omega))
  have hle := h2 _ h3
  have htop : (ofB (fromX X ks)).testBit (mostN ks - leastN ks) = true := by
    rw [hbit]; apply decide_eq_true
    rw [show leastN ks + (mostN ks - leastN ks) = mostN ks by omega]; exact h3
  have h32 : (2 : Nat) ^ (mostN ks - leastN ks + 1) ≤ 2 ^ 32 := Nat.pow_le_pow_right (by omega) (by omega)
  refine ⟨h0, hA, hbit, Nat.lt_of_lt_of_le hlt h32, ?_⟩
  have hodd : ofB (fromX X ks) % 2 = 1 := by
    have := hbit 0
    rw [Nat.testBit_zero, Nat.add_zero, decide_eq_true h1] at this
    exact of_decide_eq_true this
  unfold lenB rightB
  rw [decide_eq_true (show 0 ≤ ofA (fromX X ks) by rw [hA]; omega), decide_eq_true hodd]
  have hp1 := Gf.lt_plen_of_bit htop
  have hp2 := Gf.plen_le.2 hlt
  show Gf.plen _ = _
  omega
end Go.Proofs.YtmjigpnpcacefaaDoor
