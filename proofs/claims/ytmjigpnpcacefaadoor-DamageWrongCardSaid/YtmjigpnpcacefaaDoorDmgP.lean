/- Plain laws about damaged bytes: no program in sight. -/
import Derived.Test.YtmjigpnpcacefaaDoorDmgL
namespace Go.Proofs.YtmjigpnpcacefaaDoor
open Go Go.RowKit Go.Shelf

/-- A bit of bytes. -/
def bitAt (xs : List Nat) (k : Nat) : Bool := (xs[k / 8]?.getD 0).testBit (k % 8)
theorem bitAt_flip (xs : List Nat) (j k : Nat) (hj : j / 8 < xs.length) : bitAt (Gf.flip xs j) k = (bitAt xs k ^^ decide (j = k)) := by
  unfold bitAt Gf.flip
  by_cases h : j / 8 = k / 8
  · rw [h, List.getElem?_set_self (by omega), Option.getD_some, Nat.testBit_xor, Nat.testBit_two_pow]
    congr 1
    by_cases e : j % 8 = k % 8
    · rw [decide_eq_true e, decide_eq_true (by omega)]
    · rw [decide_eq_false e, decide_eq_false (by omega)]
  · rw [List.getElem?_set_ne h, decide_eq_false (by intro e; rw [e] at h; exact h rfl), Bool.xor_false]
theorem bitAt_flips (ks : List Nat) : ∀ (xs : List Nat) (k : Nat), (∀ j ∈ ks, j / 8 < xs.length) → ks.Nodup → bitAt (Gf.flips xs ks) k = (bitAt xs k ^^ decide (k ∈ ks)) := by
  induction ks with
  | nil => intro xs k _ _; simp [Gf.flips]
  | cons j ks ih =>
    intro xs k h hn
    have e : Gf.flips xs (j :: ks) = Gf.flips (Gf.flip xs j) ks := rfl
    rw [List.nodup_cons] at hn
    rw [e, ih (Gf.flip xs j) k (fun i hi => by rw [Gf.flip_length]; exact h i (List.mem_cons_of_mem _ hi)) hn.2, bitAt_flip xs j k (h j List.mem_cons_self), Bool.xor_assoc]
    congr 1
    by_cases h1 : j = k
    · subst h1
      rw [decide_eq_true rfl, decide_eq_false hn.1, decide_eq_true List.mem_cons_self]; rfl
    · rw [decide_eq_false h1, Bool.false_xor]
      by_cases h2 : k ∈ ks
      · rw [decide_eq_true h2, decide_eq_true (List.mem_cons_of_mem _ h2)]
      · rw [decide_eq_false h2, decide_eq_false (by rw [List.mem_cons]; rintro (h | h); exact h1 h.symm; exact h2 h)]
theorem bytes_ext {xs ys : List Nat} (hx : Bytes xs) (hy : Bytes ys) (hl : xs.length = ys.length) (h : ∀ k, k < 8 * xs.length → bitAt xs k = bitAt ys k) : xs = ys := by
  apply list_ext_getD hl
  intro p hp
  apply Nat.eq_of_testBit_eq
  intro i
  by_cases hi : i < 8
  · have := h (8 * p + i) (by omega)
    unfold bitAt at this
    rwa [show (8 * p + i) / 8 = p by omega, show (8 * p + i) % 8 = i by omega] at this
  · rw [Nat.testBit_lt_two_pow (Nat.lt_of_lt_of_le (hx.get p) (show (2 : Nat) ^ 8 ≤ 2 ^ i from Nat.pow_le_pow_right (by omega) (by omega))), Nat.testBit_lt_two_pow (Nat.lt_of_lt_of_le (hy.get p) (show (2 : Nat) ^ 8 ≤ 2 ^ i from Nat.pow_le_pow_right (by omega) (by omega)))]
theorem diffB_bit (xs ys : List Nat) (k : Nat) : diffB xs ys k = (bitAt xs k ^^ bitAt ys k) := by
  unfold diffB bitAt
  rw [Nat.testBit_xor]
/-- What the flips have turned is just what differs. -/
theorem diff_flips (xs ks : List Nat) (h : ∀ j ∈ ks, j / 8 < xs.length) (hn : ks.Nodup) (m : Nat) : diffTo xs (Gf.flips xs ks) m = (List.range m).filter (fun k => decide (k ∈ ks)) := by
  unfold diffTo
  apply List.filter_congr
  intro k _
  rw [diffB_bit, bitAt_flips ks xs k h hn, ← Bool.xor_assoc, Bool.xor_self, Bool.false_xor]
theorem diff_comm (xs ys : List Nat) (m : Nat) : diffTo xs ys m = diffTo ys xs m := by
  unfold diffTo
  apply List.filter_congr
  intro k _
  rw [diffB_bit, diffB_bit, Bool.xor_comm]
theorem flips_back {xs : List Nat} (hx : Bytes xs) (ks js : List Nat) (h : ∀ j ∈ ks, j / 8 < xs.length) (hn : ks.Nodup) (hm : js.Nodup) (he : ∀ k, k ∈ js ↔ k ∈ ks) : Gf.flips (Gf.flips xs ks) js = xs := by
  refine bytes_ext (Gf.bytes_flips js (Gf.bytes_flips ks hx)) hx (by rw [Gf.flips_length, Gf.flips_length]) (fun k _ => ?_)
  rw [bitAt_flips js _ k (fun j hj => by rw [Gf.flips_length]; exact h j ((he j).1 hj)) hm, bitAt_flips ks xs k h hn]
  by_cases hk : k ∈ ks
  · rw [decide_eq_true hk, decide_eq_true ((he k).2 hk), Bool.xor_assoc]; simp
  · rw [decide_eq_false hk, decide_eq_false (fun e => hk ((he k).1 e))]; simp
/-- All bits are there, none twice. -/
theorem flE_zero (n : Nat) : ∀ (l pre : List Int), (∀ k ∈ l, 0 ≤ k ∧ k / 8 < (n : Int)) → l.Nodup → (∀ k ∈ l, k ∉ pre) → flE n pre l = 0
  | [], _, _, _, _ => rfl
  | k :: l, pre, h1, h2, h3 => by
    rw [List.nodup_cons] at h2
    have hk := h1 k List.mem_cons_self
    unfold flE
    rw [if_neg (by omega), if_neg (h3 k List.mem_cons_self)]
    exact flE_zero n l (pre ++ [k]) (fun j hj => h1 j (List.mem_cons_of_mem _ hj)) h2.2 (fun j hj => by
      rw [List.mem_append, List.mem_singleton]
      rintro (h | h)
      · exact h3 j (List.mem_cons_of_mem _ hj) h
      · rw [h] at hj; exact h2.1 hj)
def ints (ks : List Nat) : List Int := ks.map fun (k : Nat) => (k : Int)
theorem ints_length (ks : List Nat) : (ints ks).length = ks.length := by simp [ints]
theorem ints_nat (ks : List Nat) : (ints ks).map Int.toNat = ks := by
  unfold ints
  rw [List.map_map]
  conv => rhs; rw [← List.map_id ks]
  apply List.map_congr_left
  intro k _
  simp
theorem ints_mem {ks : List Nat} {k : Nat} : (k : Int) ∈ ints ks ↔ k ∈ ks := by
  unfold ints
  rw [List.mem_map]
  constructor
  · rintro ⟨j, hj, e⟩
    rwa [show k = j by omega]
  · intro h
    exact ⟨k, h, rfl⟩
theorem ints_nodup {ks : List Nat} (h : ks.Nodup) : (ints ks).Nodup := by
  unfold ints
  exact List.Pairwise.map _ (fun a b hab e => hab (by omega)) h
theorem ints_bound {ks : List Nat} {m : Nat} (h : ∀ k ∈ ks, k < m) (hm : m < 9223372036854775807) : ∀ k ∈ ints ks, -9223372036854775808 ≤ k ∧ k ≤ 9223372036854775807 := by
  unfold ints
  intro k hk
  obtain ⟨j, hj, rfl⟩ := List.mem_map.1 hk
  have := h j hj
  omega
theorem flip_ok (xs ks : List Nat) (h : ∀ j ∈ ks, j / 8 < xs.length) (hn : ks.Nodup) : flipE xs (ints ks) = 0 ∧ flipV xs (ints ks) = Gf.flips xs ks := by
  have e : flipE xs (ints ks) = 0 := flE_zero _ _ _ (fun k hk => by
    unfold ints at hk
    obtain ⟨j, hj, rfl⟩ := List.mem_map.1 hk
    have := h j hj
    omega) (ints_nodup hn) (fun k _ h => by cases h)
  refine ⟨e, ?_⟩
  unfold flipV
  rw [if_pos e, ints_nat]

/-- Lists that rise, with the same members, are the same. -/
theorem rise_ext : ∀ {a b : List Nat}, a.Pairwise (· < ·) → b.Pairwise (· < ·) → (∀ k, k ∈ a ↔ k ∈ b) → a = b
  | [], [], _, _, _ => rfl
  | [], y :: b, _, _, h => absurd ((h y).2 List.mem_cons_self) (by simp)
  | x :: a, [], _, _, h => absurd ((h x).1 List.mem_cons_self) (by simp)
  | x :: a, y :: b, ha, hb, h => by
    rw [List.pairwise_cons] at ha hb
    have e : x = y := by
      rcases List.mem_cons.1 ((h x).1 List.mem_cons_self) with e | hx
      · exact e
      · rcases List.mem_cons.1 ((h y).2 List.mem_cons_self) with e | hy
        · exact e.symm
        · have h1 := hb.1 x hx
          have h2 := ha.1 y hy
          omega
    subst e
    congr 1
    refine rise_ext ha.2 hb.2 (fun k => ?_)
    constructor
    · intro hk
      rcases List.mem_cons.1 ((h k).1 (List.mem_cons_of_mem _ hk)) with e | hk'
      · have := ha.1 k hk; omega
      · exact hk'
    · intro hk
      rcases List.mem_cons.1 ((h k).2 (List.mem_cons_of_mem _ hk)) with e | hk'
      · have := hb.1 k hk; omega
      · exact hk'
theorem rise_nodup {a : List Nat} (h : a.Pairwise (· < ·)) : a.Nodup := h.imp (fun h => Nat.ne_of_lt h)
theorem range_rise (n : Nat) (p : Nat → Bool) : ((List.range n).filter p).Pairwise (· < ·) := List.Pairwise.filter _ List.pairwise_lt_range
/-- The bits of a burst. -/
def hits (X b : Nat) : List Nat := ((List.range (Gf.plen b)).filter fun i => b.testBit i).map fun i => X + i
theorem hits_rise (X b : Nat) : (hits X b).Pairwise (· < ·) := List.Pairwise.map _ (fun _ _ h => Nat.add_lt_add_left h X) (range_rise _ _)
theorem hits_mem (X b k : Nat) : k ∈ hits X b ↔ X ≤ k ∧ b.testBit (k - X) = true := by
  unfold hits
  simp only [List.mem_map, List.mem_filter, List.mem_range]
  constructor
  · rintro ⟨i, ⟨_, h⟩, rfl⟩
    exact ⟨by omega, by rwa [show X + i - X = i by omega]⟩
  · rintro ⟨h1, h2⟩
    exact ⟨k - X, ⟨Gf.lt_plen_of_bit h2, h2⟩, by omega⟩
theorem hits_lt (X b k : Nat) (h : k ∈ hits X b) : k < X + Gf.plen b := by
  have := (hits_mem X b k).1 h
  have := Gf.lt_plen_of_bit this.2
  omega
theorem blist_hits (X b : Nat) : blist (X : Int) b (Gf.plen b) = ints (hits X b) := by
  unfold blist hits ints
  rw [List.map_map]
  apply List.map_congr_left
  intro k _
  simp
theorem plen_le32 {b : Nat} (h : b < 4294967296) : Gf.plen b ≤ 32 := Gf.plen_le.2 h
theorem odd_ne {b : Nat} (h : b % 2 = 1) : b ≠ 0 := by omega
theorem odd_plen {b : Nat} (h : b % 2 = 1) : 0 < Gf.plen b := Gf.plen_pos (odd_ne h)
theorem odd_or (b : Nat) : (b ||| 1) % 2 = 1 := by
  have : (b ||| 1).testBit 0 = true := by simp
  rw [Nat.testBit_zero] at this
  exact of_decide_eq_true this
theorem burst_ok (X b : Nat) (hb : b < 4294967296) (ho : b % 2 = 1) (hX : X ≤ 9223372036854775775) : rightB (X : Int) b = true ∧ bitsOk (X : Int) b = true ∧ bitsV (X : Int) b = ints (hits X b) ∧ bitsE (X : Int) b = 0 ∧ lenB (X : Int) b = Gf.plen b := by
  have h1 : rightB (X : Int) b = true := by
    unfold rightB; rw [decide_eq_true (by omega), decide_eq_true ho]; rfl
  have h2 : bitsOk (X : Int) b = true := by
    unfold bitsOk; rw [h1, Bool.true_and]; apply decide_eq_true
    have := plen_le32 hb; omega
  refine ⟨h1, h2, ?_, ?_, ?_⟩
  · unfold bitsV; rw [if_pos h2]; exact blist_hits X b
  · unfold bitsE; rw [if_pos h2]
  · unfold lenB; rw [if_pos h1]
theorem strike_ok (xs : List Nat) (X b : Nat) (hb : b < 4294967296) (ho : b % 2 = 1) (hX : X + Gf.plen b ≤ 8 * xs.length) (hl : xs.length < 1000000000) :
    strikeE xs (X : Int) b = 0 ∧ strikeV xs (X : Int) b = Gf.flips xs (hits X b) := by
  have hp := plen_le32 hb
  obtain ⟨h1, h2, h3, _, _⟩ := burst_ok X b hb ho (by omega)
  have h4 := flip_ok xs (hits X b) (fun j hj => by have := hits_lt X b j hj; omega) (rise_nodup (hits_rise X b))
  unfold strikeE strikeV
  rw [if_pos h1, if_pos h2, if_pos h2, h3]
  exact h4
/-- What a burst strikes is what then differs. -/
theorem diff_burst (xs : List Nat) (X b : Nat) (hX : X + Gf.plen b ≤ 8 * xs.length) : diffTo (Gf.flips xs (hits X b)) xs (8 * xs.length) = hits X b := by
  rw [diff_comm, diff_flips xs _ (fun j hj => by have := hits_lt X b j hj; omega) (rise_nodup (hits_rise X b))]
  refine rise_ext (range_rise _ _) (hits_rise X b) (fun k => ?_)
  rw [List.mem_filter, List.mem_range, decide_eq_true_iff]
  constructor
  · exact fun h => h.2
  · exact fun h => ⟨by have := hits_lt X b k h; omega, h⟩
theorem rise_head {a : List Nat} {x : Nat} (h : a.Pairwise (· < ·)) (hx : x ∈ a) (hm : ∀ k ∈ a, x ≤ k) : a[0]?.getD 0 = x := by
  cases a with
  | nil => cases hx
  | cons y a =>
    rw [List.pairwise_cons] at h
    have h1 := hm y List.mem_cons_self
    rcases List.mem_cons.1 hx with e | hx
    · simp [e]
    · have := h.1 x hx; omega
theorem rise_last {x : Nat} : ∀ {a : List Nat}, a.Pairwise (· < ·) → x ∈ a → (∀ k ∈ a, k ≤ x) → a[a.length - 1]?.getD 0 = x
  | [], _, h, _ => by cases h
  | [y], _, h, _ => by
    rw [List.mem_singleton] at h
    simp [h]
  | y :: z :: a, hp, h, hm => by
    rw [List.pairwise_cons] at hp
    have hx : x ∈ z :: a := by
      rcases List.mem_cons.1 h with e | h
      · have h1 := hp.1 z List.mem_cons_self
        have h2 := hm z (List.mem_cons_of_mem _ List.mem_cons_self)
        omega
      · exact h
    have := rise_last hp.2 hx (fun k hk => hm k (List.mem_cons_of_mem _ hk))
    simpa using this
theorem hits_ends (X b : Nat) (ho : b % 2 = 1) : 0 < (hits X b).length ∧ (hits X b)[0]?.getD 0 = X ∧ (hits X b)[(hits X b).length - 1]?.getD 0 = X + Gf.plen b - 1 := by
  have hm : X ∈ hits X b := (hits_mem X b X).2 ⟨Nat.le_refl _, by rw [Nat.sub_self, Nat.testBit_zero, ho]; rfl⟩
  have hp := odd_plen ho
  refine ⟨List.length_pos_of_mem hm, rise_head (hits_rise X b) hm (fun k hk => ((hits_mem X b k).1 hk).1), rise_last (hits_rise X b) ?_ (fun k hk => by have := hits_lt X b k hk; omega)⟩
  refine (hits_mem X b _).2 ⟨by omega, ?_⟩
  rw [show X + Gf.plen b - 1 - X = Gf.plen b - 1 by omega]
  exact Gf.plen_top (odd_ne ho)
theorem ints_get (ks : List Nat) (i : Nat) : (ints ks)[i]?.getD 0 = ((ks[i]?.getD 0 : Nat) : Int) := by
  unfold ints
  rw [List.getElem?_map]
  cases ks[i]? <;> simp
theorem betw_flips (xs ks : List Nat) (h : ∀ j ∈ ks, j / 8 < xs.length) (hn : ks.Nodup) : betweenE xs (Gf.flips xs ks) = 0 ∧ betweenV xs (Gf.flips xs ks) = ints ((List.range (8 * xs.length)).filter fun k => decide (k ∈ ks)) := by
  unfold betweenE betweenV
  rw [if_pos (Gf.flips_length ks xs).symm, if_pos (Gf.flips_length ks xs).symm, diff_flips xs ks h hn]
  exact ⟨rfl, rfl⟩
theorem betw_burst (xs : List Nat) (X b : Nat) (hX : X + Gf.plen b ≤ 8 * xs.length) : betweenE (Gf.flips xs (hits X b)) xs = 0 ∧ betweenV (Gf.flips xs (hits X b)) xs = ints (hits X b) := by
  unfold betweenE betweenV
  rw [if_pos (Gf.flips_length _ xs), if_pos (Gf.flips_length _ xs), Gf.flips_length, diff_burst xs X b hX]
  exact ⟨rfl, rfl⟩
end Go.Proofs.YtmjigpnpcacefaaDoor
