/- The reference's reading of a mask's text: what it reads is the text of what it gives, and each text is read; plain lists and numbers. -/
import Derived.Test.YtjpkldndeakkkaaDoorMRefP
namespace Go.Proofs.YtjpkldndeakkkaaDoor
open Go Go.RowKit Go.Shelf

def isDig (c : UInt8) : Bool := decide (48 ≤ c.toNat ∧ c.toNat ≤ 57)
def dv (l : List UInt8) : Int := l.foldl (fun n c => 10 * n + (c.toNat : Int) - 48) 0
/-- The digits at the front, at most three. -/
def digs (D : List UInt8) : List UInt8 := (D.take 3).takeWhile isDig
def rnum (D : List UInt8) : Int := if digs D = [] ∨ 63 < dv (digs D) ∨ (D.head? = some 48 ∧ 1 < (digs D).length) then -1 else dv (digs D)
theorem dv_snoc (l : List UInt8) (c : UInt8) : dv (l ++ [c]) = 10 * dv l + (c.toNat : Int) - 48 := by unfold dv; rw [List.foldl_append]; rfl
theorem digs_len (D : List UInt8) : (digs D).length ≤ 3 ∧ (digs D).length ≤ D.length := by
  have h := (List.takeWhile_prefix isDig (l := D.take 3)).length_le
  rw [List.length_take] at h
  unfold digs
  omega
/-- The digits, from where the walk stops. -/
theorem digs_at {D : List UInt8} {j : Nat} (h3 : j ≤ 3) (hj : j ≤ D.length) (hd : ∀ i, i < j → isDig (D[i]?.getD 0) = true) (hs : j = 3 ∨ j = D.length ∨ isDig (D[j]?.getD 0) = false) : digs D = D.take j := by
  unfold digs
  have e : D.take 3 = D.take j ++ (D.drop j).take (3 - j) := by
    rw [← List.take_append_drop j (D.take 3), List.take_take, List.drop_take, Nat.min_eq_left h3]
  rw [e, List.takeWhile_append_of_pos]
  · rcases hs with h | h | h
    · rw [h]; simp
    · rw [List.drop_eq_nil_of_le (by omega)]; simp
    · cases hr : (D.drop j) with
      | nil => simp
      | cons c R =>
        have hc : D[j]?.getD 0 = c := by
          have : (D.drop j)[0]? = some c := by rw [hr]; rfl
          rw [List.getElem?_drop, Nat.add_zero] at this
          rw [this]; rfl
        rw [hc] at h
        cases hk : 3 - j with
        | zero => simp
        | succ k => simp [h]
  · intro x hx
    obtain ⟨i, hi, rfl⟩ := List.mem_iff_getElem.1 hx
    rw [List.length_take] at hi
    have := hd i (by omega)
    rw [List.getElem?_eq_getElem (by omega)] at this
    rw [List.getElem_take]
    exact this
theorem tw_mem {p : UInt8 → Bool} : ∀ (l : List UInt8), ∀ c ∈ l.takeWhile p, p c = true
  | [], c, h => by cases h
  | a :: l, c, h => by
    by_cases hp : p a = true
    · rw [List.takeWhile_cons_of_pos hp] at h
      rcases List.mem_cons.1 h with rfl | h
      · exact hp
      · exact tw_mem l c h
    · rw [List.takeWhile_cons_of_neg hp] at h; cases h
theorem digs_dig {D : List UInt8} : ∀ c ∈ digs D, isDig c = true := fun c hc => by
  unfold digs at hc
  exact tw_mem _ c hc
theorem pre_split {t D : List UInt8} (h : t <+: D) : D = t ++ D.drop t.length := by
  obtain ⟨r, rfl⟩ := h
  rw [List.drop_left]
theorem digs_split (D : List UInt8) : D = digs D ++ D.drop (digs D).length :=
  pre_split ((List.takeWhile_prefix _).trans (List.take_prefix _ _))
theorem dig_nat {c : UInt8} (h : isDig c = true) : ∃ i, i < 10 ∧ c = UInt8.ofNat (48 + i) ∧ (c.toNat : Int) = 48 + (i : Int) ∧ (i = 0 → c = 48) := by
  have h1 := of_decide_eq_true h
  refine ⟨c.toNat - 48, by omega, ?_, by omega, fun e => ?_⟩
  · rw [show 48 + (c.toNat - 48) = c.toNat by omega, UInt8.ofNat_toNat]
  · have : c.toNat = 48 := by omega
    rw [← UInt8.ofNat_toNat (x := c), this]; rfl
theorem rnum_dec {D : List UInt8} (h : 0 ≤ rnum D) : ∃ n : Nat, rnum D = (n : Int) ∧ n < 64 ∧ digs D = Lib.decDigits n := by
  have hd := digs_dig (D := D)
  have hl := digs_len D
  have hsp := digs_split D
  unfold rnum at h ⊢
  obtain ⟨t, ht⟩ : ∃ t, digs D = t := ⟨_, rfl⟩
  rw [ht] at hd hl hsp h ⊢
  by_cases hc : t = [] ∨ 63 < dv t ∨ (D.head? = some 48 ∧ 1 < t.length)
  · rw [if_pos hc] at h; omega
  · rw [if_neg hc] at h ⊢
    obtain ⟨q1, q2⟩ := not_or.1 hc
    obtain ⟨q2, q3⟩ := not_or.1 q2
    match t, hd, hl, hsp, h, q1, q2, q3 with
    | [], _, _, _, _, q1, _, _ => exact absurd rfl q1
    | [a], hd, _, _, h, _, q2, _ =>
      obtain ⟨i, hi, he, hv, -⟩ := dig_nat (hd a List.mem_cons_self)
      have e : dv [a] = (i : Int) := by show 10 * (0 : Int) + (a.toNat : Int) - 48 = _; omega
      exact ⟨i, e, by omega, by rw [Lib.decDigits_one hi, he]⟩
    | [a, b], hd, _, hsp, h, _, q2, q3 =>
      obtain ⟨i, hi, he, hv, h0⟩ := dig_nat (hd a List.mem_cons_self)
      obtain ⟨j, hj, he2, hv2, -⟩ := dig_nat (hd b (List.mem_cons_of_mem _ List.mem_cons_self))
      have e : dv [a, b] = ((10 * i + j : Nat) : Int) := by show 10 * (10 * (0 : Int) + (a.toNat : Int) - 48) + (b.toNat : Int) - 48 = _; omega
      have hi0 : i ≠ 0 := fun e0 => q3 ⟨by rw [hsp]; simp [h0 e0], by simp⟩
      refine ⟨10 * i + j, e, by omega, ?_⟩
      rw [Lib.decDigits_two (by omega) (by omega), he, he2, show (10 * i + j) / 10 = i by omega, show (10 * i + j) % 10 = j by omega]
    | [a, b, c], hd, _, hsp, h, _, q2, q3 =>
      obtain ⟨i, hi, he, hv, h0⟩ := dig_nat (hd a List.mem_cons_self)
      obtain ⟨j, hj, he2, hv2, -⟩ := dig_nat (hd b (List.mem_cons_of_mem _ List.mem_cons_self))
      obtain ⟨k, hk, he3, hv3, -⟩ := dig_nat (hd c (List.mem_cons_of_mem _ (List.mem_cons_of_mem _ List.mem_cons_self)))
      have e : dv [a, b, c] = ((100 * i + 10 * j + k : Nat) : Int) := by show 10 * (10 * (10 * (0 : Int) + (a.toNat : Int) - 48) + (b.toNat : Int) - 48) + (c.toNat : Int) - 48 = _; omega
      have hi0 : i ≠ 0 := fun e0 => q3 ⟨by rw [hsp]; simp [h0 e0], by simp⟩
      omega
    | a :: b :: c :: d :: r, _, hl, _, _, _, _, _ => simp at hl
theorem dec_digs : ∀ n, n < 64 → ((Lib.decDigits n).all isDig = true ∧ (Lib.decDigits n).length ≤ 2 ∧ 0 < (Lib.decDigits n).length ∧ dv (Lib.decDigits n) = (n : Int) ∧ ((Lib.decDigits n).length = 1 ∨ (Lib.decDigits n).head? ≠ some 48)) := by decide +kernel
theorem rnum_of {n : Nat} (hn : n < 64) (R : List UInt8) (hR : R = [] ∨ ∃ c R', R = c :: R' ∧ isDig c = false) : digs (Lib.decDigits n ++ R) = Lib.decDigits n ∧ rnum (Lib.decDigits n ++ R) = (n : Int) := by
  obtain ⟨h1, h2, h3, h4, h5⟩ := dec_digs n hn
  obtain ⟨t, ht⟩ : ∃ t, Lib.decDigits n = t := ⟨_, rfl⟩
  rw [ht] at h1 h2 h3 h4 h5 ⊢
  have e : digs (t ++ R) = t := by
    have := digs_at (D := t ++ R) (j := t.length) (by omega) (by simp) (fun i hi => by
      rw [List.getElem?_append_left hi, List.getElem?_eq_getElem hi, Option.getD_some]
      exact List.all_eq_true.1 h1 _ (List.getElem_mem hi)) (by
      rcases hR with rfl | ⟨c, R', rfl, hc⟩
      · exact .inr (.inl (by simp))
      · right; right
        rw [List.getElem?_append_right (Nat.le_refl _), Nat.sub_self]
        simpa using hc)
    rw [this, List.take_left]
  refine ⟨e, ?_⟩
  unfold rnum
  rw [e, if_neg, h4]
  have hne : t ≠ [] := by intro q; rw [q] at h3; simp at h3
  rintro (q | q | ⟨q1, q2⟩)
  · exact hne q
  · omega
  · rcases h5 with h5 | h5
    · omega
    · apply h5
      rw [← q1]
      cases t with
      | nil => exact absurd rfl hne
      | cons x y => rfl

/-- One run: where it ends, and what is left behind it. -/
def rD1 (D : List UInt8) : List UInt8 := D.drop (digs D).length
def rto (D : List UInt8) : Int := if (rD1 D).head? = some 45 then rnum ((rD1 D).drop 1) else rnum D
def rrest (D : List UInt8) : List UInt8 := if (rD1 D).head? = some 45 then rD1 ((rD1 D).drop 1) else rD1 D
def rbad (D : List UInt8) : Prop := (rD1 D).head? = some 45 ∧ rnum ((rD1 D).drop 1) ≤ rnum D
instance (D : List UInt8) : Decidable (rbad D) := by unfold rbad; infer_instance
theorem run_of {D : List UInt8} (h : 0 ≤ rnum D) (hb : ¬ rbad D) : ∃ a b : Nat, a ≤ b ∧ b < 64 ∧ rnum D = (a : Int) ∧ rto D = (b : Int) ∧ D = rtext a b ++ rrest D := by
  obtain ⟨a, ha, ha64, hda⟩ := rnum_dec h
  have hsp := digs_split D
  rw [hda] at hsp
  have hD1 : rD1 D = D.drop (Lib.decDigits a).length := by unfold rD1; rw [hda]
  rw [← hD1] at hsp
  by_cases h45 : (rD1 D).head? = some 45
  · have hgt : rnum D < rnum ((rD1 D).drop 1) := by
      rcases (show rnum D < rnum ((rD1 D).drop 1) ∨ rnum ((rD1 D).drop 1) ≤ rnum D by omega) with q | q
      · exact q
      · exact absurd ⟨h45, q⟩ hb
    obtain ⟨b, hb', hb64, hdb⟩ := rnum_dec (D := (rD1 D).drop 1) (by omega)
    refine ⟨a, b, by omega, hb64, ha, by unfold rto; rw [if_pos h45, hb'], ?_⟩
    have hs2 := digs_split ((rD1 D).drop 1)
    have h1 : rD1 D = 45 :: (rD1 D).drop 1 := by
      cases hr : rD1 D with
      | nil => rw [hr] at h45; cases h45
      | cons x r => rw [hr] at h45; cases h45; rfl
    have hrr : rrest D = ((rD1 D).drop 1).drop (digs ((rD1 D).drop 1)).length := by unfold rrest; rw [if_pos h45]; rfl
    rw [hrr]
    unfold rtext
    rw [if_pos (by omega)]
    conv => lhs; rw [hsp, h1, hs2, hdb]
    rw [hdb]
    simp
  · refine ⟨a, a, Nat.le_refl _, ha64, ha, by unfold rto; rw [if_neg h45, ha], ?_⟩
    unfold rrest rtext
    rw [if_neg h45, if_neg (by omega)]
    exact hsp
theorem of_run {a b : Nat} (hab : a ≤ b) (hb : b < 64) {R : List UInt8} (hR : R = [] ∨ ∃ R', R = 44 :: R') : rnum (rtext a b ++ R) = (a : Int) ∧ rto (rtext a b ++ R) = (b : Int) ∧ rrest (rtext a b ++ R) = R ∧ ¬ rbad (rtext a b ++ R) := by
  have hR2 : R = [] ∨ ∃ c R', R = c :: R' ∧ isDig c = false := by
    rcases hR with h | ⟨R', h⟩
    · exact .inl h
    · exact .inr ⟨44, R', h, rfl⟩
  by_cases h : a < b
  · have e : rtext a b ++ R = Lib.decDigits a ++ (45 :: (Lib.decDigits b ++ R)) := by unfold rtext; rw [if_pos h]; simp
    rw [e]
    obtain ⟨h1, h2⟩ := rnum_of (n := a) (by omega) (45 :: (Lib.decDigits b ++ R)) (.inr ⟨45, _, rfl, rfl⟩)
    obtain ⟨h3, h4⟩ := rnum_of (n := b) hb R hR2
    have hD1 : rD1 (Lib.decDigits a ++ (45 :: (Lib.decDigits b ++ R))) = 45 :: (Lib.decDigits b ++ R) := by unfold rD1; rw [h1, List.drop_left]
    have hD2 : rD1 (Lib.decDigits b ++ R) = R := by unfold rD1; rw [h3, List.drop_left]
    unfold rto rrest rbad
    rw [hD1]
    simp only [List.head?_cons, if_true, List.drop_succ_cons, List.drop_zero]
    rw [hD2, h2, h4]
    exact ⟨rfl, rfl, rfl, fun q => by omega⟩
  · obtain rfl : a = b := by omega
    have e : rtext a a ++ R = Lib.decDigits a ++ R := by unfold rtext; rw [if_neg h]
    rw [e]
    obtain ⟨h1, h2⟩ := rnum_of (n := a) hb R hR2
    have hD1 : rD1 (Lib.decDigits a ++ R) = R := by unfold rD1; rw [h1, List.drop_left]
    have h45 : ¬ R.head? = some 45 := by
      rcases hR with rfl | ⟨R', rfl⟩
      · simp
      · simp
    unfold rto rrest rbad
    rw [hD1, if_neg h45, if_neg h45, h2]
    exact ⟨rfl, rfl, rfl, fun q => h45 q.1⟩

def spanI (a b : Int) : List Int := (List.range (b + 1 - a).toNat).map fun i : Nat => a + (i : Int)
theorem span_mem {a b c : Int} : c ∈ spanI a b ↔ a ≤ c ∧ c ≤ b := by
  unfold spanI
  rw [List.mem_map]
  constructor
  · rintro ⟨i, hi, rfl⟩
    rw [List.mem_range] at hi
    omega
  · rintro ⟨h1, h2⟩
    exact ⟨(c - a).toNat, by rw [List.mem_range]; omega, by omega⟩
/-- Runs in order, none of which touches the next. -/
def good : Int → List (Nat × Nat) → Prop
  | _, [] => True
  | c, (a, b) :: r => c ≤ (a : Int) ∧ a ≤ b ∧ b < 64 ∧ good ((b : Int) + 2) r
def flat : List (Nat × Nat) → List Int
  | [] => []
  | (a, b) :: r => spanI (a : Int) (b : Int) ++ flat r
def rt (p : Nat × Nat) : List UInt8 := rtext p.1 p.2
theorem good_low : ∀ {rl : List (Nat × Nat)} {c d : Int}, d ≤ c → good c rl → good d rl
  | [], _, _, _, _ => trivial
  | (a, b) :: r, c, d, h, ⟨h1, h2⟩ => ⟨by omega, h2⟩
theorem good_flat : ∀ {rl : List (Nat × Nat)} {c : Int}, good c rl → ∀ x ∈ flat rl, c ≤ x ∧ x < 64
  | [], _, _, x, hx => by cases hx
  | (a, b) :: r, c, ⟨h1, h2, h3, h4⟩, x, hx => by
    rcases List.mem_append.1 hx with hx | hx
    · have := span_mem.1 hx; omega
    · have := good_flat h4 x hx; omega
theorem good_up : ∀ {rl : List (Nat × Nat)} {c : Int}, good c rl → c ∉ flat rl → good (c + 1) rl
  | [], _, _, _ => trivial
  | (a, b) :: r, c, ⟨h1, h2, h3, h4⟩, hx => by
    refine ⟨?_, h2, h3, h4⟩
    rcases (show c < (a : Int) ∨ (a : Int) ≤ c by omega) with h | h
    · omega
    · exact absurd (List.mem_append.2 (.inl (span_mem.2 ⟨by omega, by omega⟩))) hx
def rrd : Nat → List UInt8 → Int → List Int → Option Nat
  | 0, _, _, _ => none
  | f + 1, D, least, l => if rnum D < least ∨ rbad D then none else match rrest D with
    | [] => some (orL (l ++ spanI (rnum D) (rto D)))
    | c :: R => if c = 44 then rrd f R (rto D + 2) (l ++ spanI (rnum D) (rto D)) else none
theorem rrd_sound : ∀ f D least l M, 0 ≤ least → rrd f D least l = some M → ∃ rl, rl ≠ [] ∧ good least rl ∧ D = Lib.join (rl.map rt) [44] ∧ M = orL (l ++ flat rl)
  | 0, _, _, _, _, _, h => by cases h
  | f + 1, D, least, l, M, h0, h => by
    unfold rrd at h
    by_cases hc : rnum D < least ∨ rbad D
    · rw [if_pos hc] at h; cases h
    · rw [if_neg hc] at h
      obtain ⟨q1, q2⟩ := not_or.1 hc
      obtain ⟨a, b, hab, hb, ea, eb, eD⟩ := run_of (D := D) (by omega) q2
      rw [ea, eb] at h
      cases hr : rrest D with
      | nil =>
        rw [hr] at h eD
        cases h
        refine ⟨[(a, b)], by simp, ⟨by omega, hab, hb, trivial⟩, ?_, by simp [flat]⟩
        rw [eD]; simp [rt, Lib.join_cons, Lib.joinTail]
      | cons c R =>
        rw [hr] at h eD
        by_cases hc44 : c = 44
        · subst hc44
          simp only [if_true] at h
          obtain ⟨rl, g1, g2, g3, g4⟩ := rrd_sound f R _ _ M (by omega) h
          refine ⟨(a, b) :: rl, by simp, ⟨by omega, hab, hb, g2⟩, ?_, by rw [g4]; simp [flat, List.append_assoc]⟩
          rw [List.map_cons, join_tail, eD, g3]
          cases rl with
          | nil => exact absurd rfl g1
          | cons x y => rfl
        · simp only [if_neg hc44] at h; cases h
theorem rrd_full : ∀ f rl least l, rl ≠ [] → good least rl → rl.length ≤ f → rrd f (Lib.join (rl.map rt) [44]) least l = some (orL (l ++ flat rl))
  | _, [], _, _, h, _, _ => absurd rfl h
  | 0, _ :: _, _, _, _, _, h => by simp at h
  | f + 1, (a, b) :: r, least, l, _, ⟨h1, h2, h3, h4⟩, hf => by
    rw [List.map_cons, join_tail]
    have hR : tailT (r.map rt) = [] ∨ ∃ R', tailT (r.map rt) = 44 :: R' := by
      cases r with
      | nil => exact .inl rfl
      | cons x y => exact .inr ⟨_, rfl⟩
    obtain ⟨e1, e2, e3, e4⟩ := of_run h2 h3 hR
    have ert : rt (a, b) = rtext a b := rfl
    rw [ert]
    unfold rrd
    rw [e1, e2, e3, if_neg (by rintro (q | q); (· omega); (· exact e4 q))]
    cases r with
    | nil => simp [tailT, flat]
    | cons x y =>
      have ht : tailT ((x :: y).map rt) = 44 :: Lib.join ((x :: y).map rt) [44] := rfl
      rw [ht]
      simp only [if_true]
      rw [rrd_full f (x :: y) _ _ (by simp) h4 (by simp at hf ⊢; omega)]
      simp [flat, List.append_assoc]
theorem runs_skip {m : Nat} (a : Nat) : ∀ k c, c + k = a → a ≤ 64 → (∀ i, c ≤ i → i < a → m.testBit i = false) → runs m 65 c = runs m 65 a
  | 0, c, h, _, _ => by rw [show c = a by omega]
  | k + 1, c, h, h64, hb => by
    rw [runs_no m c (by omega) (hb c (by omega) (by omega))]
    exact runs_skip a k (c + 1) (by omega) h64 (fun i x y => hb i (by omega) y)
theorem runs_of {m : Nat} (hm : m < 18446744073709551616) : ∀ (rl : List (Nat × Nat)) (c : Nat), good (c : Int) rl → (∀ i : Nat, c ≤ i → (m.testBit i = true ↔ (i : Int) ∈ flat rl)) → runs m 65 c = rl.map rt
  | [], c, _, hb => by
    rcases Nat.lt_or_ge c 64 with h | h
    · rw [runs_skip 64 (64 - c) c (by omega) (by omega) (fun i x y => by
        cases hq : m.testBit i with
        | false => rfl
        | true => have := (hb i x).1 hq; cases this), runs_end m 64 (by omega)]
      rfl
    · rw [runs_end m c h]; rfl
  | (a, b) :: r, c, ⟨h1, h2, h3, h4⟩, hb => by
    have hf : ∀ i : Nat, (i : Int) ∈ flat ((a, b) :: r) ↔ ((a : Int) ≤ i ∧ (i : Int) ≤ b) ∨ (i : Int) ∈ flat r := fun i => by
      show (i : Int) ∈ spanI _ _ ++ flat r ↔ _
      rw [List.mem_append, span_mem]
    have hlo := fun x hx => good_flat h4 x hx
    have hbit : ∀ i, a ≤ i → i ≤ b → m.testBit i = true := fun i x y => (hb i (by omega)).2 ((hf i).2 (.inl ⟨by omega, by omega⟩))
    have hstop : m.testBit (b + 1) = false := by
      cases hq : m.testBit (b + 1) with
      | false => rfl
      | true =>
        rcases (hf _).1 ((hb (b + 1) (by omega)).1 hq) with q | q
        · omega
        · have := hlo _ q; omega
    rw [runs_skip a (a - c) c (by omega) (by omega) (fun i x y => by
      cases hq : m.testBit i with
      | false => rfl
      | true =>
        rcases (hf i).1 ((hb i x).1 hq) with q | q
        · omega
        · have := hlo _ q; omega)]
    rw [runs_yes m a b (by omega) (hbit a (by omega) h2) (runTo_eq m 64 a b h2 (by omega) (fun i x y => hbit i (by omega) y) hstop) h2, List.map_cons]
    congr 1
    refine runs_of hm r (b + 1) (good_low (by omega) h4) (fun i hi => ?_)
    rw [hb i (by omega), hf i]
    constructor
    · rintro (q | q)
      · omega
      · exact q
    · exact .inr
theorem runs_ex {m : Nat} (hm : m < 18446744073709551616) : ∀ (f c : Nat), 64 - c < f → ∃ rl, good (c : Int) rl ∧ runs m f c = rl.map rt ∧ ∀ i : Nat, c ≤ i → (m.testBit i = true ↔ (i : Int) ∈ flat rl)
  | 0, _, h => by omega
  | f + 1, c, h => by
    unfold runs
    by_cases h64 : 64 ≤ c
    · rw [if_pos h64]
      exact ⟨[], trivial, rfl, fun i hi => by rw [Gf.bit_ge (n := 64) hm (by omega)]; simp [flat]⟩
    · rw [if_neg h64]
      by_cases hb : m.testBit c = true
      · rw [if_pos hb]
        have hge := runTo_ge m 64 c
        have hlt := runTo_lt hm 64 c (by omega)
        have hst := runTo_stop hm 64 c (by omega)
        have hsp := runTo_spec 64 c hb
        obtain ⟨l, hl⟩ : ∃ l, runTo m c 64 = l := ⟨_, rfl⟩
        rw [hl] at hge hlt hst hsp ⊢
        obtain ⟨rl, g1, g2, g3⟩ := runs_ex hm f (l + 1) (by omega)
        have hup : good ((l : Int) + 2) rl := by
          have := good_up g1 (fun q => by rw [(g3 (l + 1) (Nat.le_refl _)).2 q] at hst; cases hst)
          exact good_low (by omega) this
        refine ⟨(c, l) :: rl, ⟨Int.le_refl _, hge, hlt, hup⟩, by rw [g2]; rfl, fun i hi => ?_⟩
        show _ ↔ (i : Int) ∈ spanI _ _ ++ flat rl
        rw [List.mem_append, span_mem]
        rcases Nat.lt_or_ge l i with q | q
        · rw [g3 i (by omega)]
          constructor
          · exact .inr
          · rintro (q' | q')
            · omega
            · exact q'
        · exact ⟨fun _ => .inl ⟨by omega, by omega⟩, fun _ => hsp i hi q⟩
      · rw [if_neg hb]
        obtain ⟨rl, g1, g2, g3⟩ := runs_ex hm f (c + 1) (by omega)
        refine ⟨rl, good_low (by omega) g1, g2, fun i hi => ?_⟩
        by_cases e : i = c
        · subst e
          constructor
          · intro q; exact absurd q hb
          · intro q; have := good_flat g1 _ q; omega
        · exact g3 i (by omega)
theorem rl_len : ∀ {rl : List (Nat × Nat)} {c : Int}, good c rl → rl.length ≤ (Lib.join (rl.map rt) [44]).length
  | [], _, _ => by simp
  | (a, b) :: r, c, ⟨h1, h2, h3, h4⟩ => by
    rw [List.map_cons, join_tail, List.length_cons, List.length_append]
    have h5 := rl_len h4
    have h6 : 0 < (rt (a, b)).length := List.length_pos_iff.2 (rtext_ne (by omega))
    cases r with
    | nil => simp; omega
    | cons x y =>
      show _ ≤ _ + (44 :: Lib.join ((x :: y).map rt) [44]).length
      have e2 : (44 :: Lib.join ((x :: y).map rt) [44]).length = (Lib.join ((x :: y).map rt) [44]).length + 1 := rfl
      rw [e2]
      omega
def rread (s : List UInt8) : Option Nat := if s = [45] then some 0 else rrd (s.length + 1) s 0 []
theorem rread_lt {s : List UInt8} {M : Nat} (h : rread s = some M) : M < 18446744073709551616 := by
  unfold rread at h
  by_cases hs : s = [45]
  · rw [if_pos hs] at h; cases h; decide
  · rw [if_neg hs] at h
    obtain ⟨rl, g1, g2, g3, rfl⟩ := rrd_sound _ _ _ _ _ (by decide) h
    refine orL_lt _ (fun c hc => ?_)
    have := good_flat g2 c (by simpa using hc)
    unfold okC
    exact decide_eq_true this
theorem rread_some {s : List UInt8} {M : Nat} (h : rread s = some M) : readV s = M ∧ readE s = 0 := by
  have hM := rread_lt h
  have ht : mtextB M = s := by
    unfold rread at h
    by_cases hs : s = [45]
    · rw [if_pos hs] at h; cases h; rw [hs]; rfl
    · rw [if_neg hs] at h
      obtain ⟨rl, g1, g2, g3, g4⟩ := rrd_sound _ _ _ _ _ (by decide) h
      rw [List.nil_append] at g4
      have hb : ∀ i : Nat, M.testBit i = true ↔ (i : Int) ∈ flat rl := fun i => by
        rw [g4, orL_bit, List.any_eq_true]
        constructor
        · rintro ⟨c, hc, he⟩
          have h1 := good_flat g2 c hc
          have h2 := of_decide_eq_true he
          rw [show (i : Int) = c by omega]; exact hc
        · intro hi
          exact ⟨_, hi, decide_eq_true (by omega)⟩
      have hr := runs_of hM rl 0 g2 (fun i _ => hb i)
      have h0 : M ≠ 0 := by
        intro e
        cases rl with
        | nil => exact g1 rfl
        | cons p r =>
          obtain ⟨a, b⟩ := p
          have := (hb a).2 (List.mem_append.2 (.inl (span_mem.2 ⟨by omega, by have := g2.2.1; omega⟩)))
          rw [e, Nat.zero_testBit] at this; cases this
      unfold mtextB
      rw [if_neg h0, hr, g3]
  rw [← ht]
  exact readV_text hM
theorem rread_none {s : List UInt8} (h : rread s = none) : readV s = 0 ∧ readE s = 201 := by
  have hne : ∀ M, M < 18446744073709551616 → mtextB M ≠ s := by
    intro M hM e
    unfold rread at h
    by_cases hs : s = [45]
    · rw [if_pos hs] at h; cases h
    · rw [if_neg hs] at h
      unfold mtextB at e
      by_cases h0 : M = 0
      · rw [if_pos h0] at e; exact hs e.symm
      · rw [if_neg h0] at e
        have hn := runs_ne hM h0
        obtain ⟨rl, g1, g2, g3⟩ := runs_ex hM 65 0 (by omega)
        rw [g2] at e hn
        have hrl : rl ≠ [] := fun q => hn (by rw [q]; rfl)
        have hf := rrd_full (s.length + 1) rl 0 [] hrl g1 (by have := rl_len g1; rw [e] at this; omega)
        rw [e, h] at hf
        cases hf
  have hr : ¬ mtextB (readM s) = s := hne _ (by
    unfold readM
    split
    · decide
    · exact guess_lt _ _ (by decide))
  unfold readV readE
  rw [if_neg hr, if_neg hr]
  exact ⟨rfl, rfl⟩
end Go.Proofs.YtjpkldndeakkkaaDoor
