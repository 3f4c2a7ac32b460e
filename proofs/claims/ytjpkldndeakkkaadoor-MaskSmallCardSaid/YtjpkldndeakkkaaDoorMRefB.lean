/- The reference masks: the walks of Right, Next, Nearest, decimal, Text. -/
import Derived.Test.YtjpkldndeakkkaaDoorMRefA
namespace Go.Proofs.YtjpkldndeakkkaaDoor
open Go Go.RowKit Go.Shelf

/-- The list of members, as the walk reads it. -/
theorem members_cells {w : World} {v : Value} {m : Nat} {base : Nat} (h : OwnsI .i64 3 w base v (ints (members m))) :
    ∃ a c, v = .slice a (members m).length c ∧ (members m).length ≤ 64 ∧ (members m).length ≤ c ∧ c ≤ 9223372036854775807 ∧ ((members m).length = 0 ∨ ∃ b o, a = some ⟨b, o, none⟩ ∧ ∀ i, i < (members m).length → w.cell? ⟨b, o + i, none⟩ = some (.int .i64 (mat m i))) := by
  obtain ⟨a, c, e, h1, h2, h3⟩ := h.reads
  rw [ints_length] at e h1 h3
  refine ⟨a, c, e, mat_len m, by omega, by omega, ?_⟩
  rcases h3 with h3 | h3
  · exact .inl (by omega)
  · exact .inr h3

set_option maxRecDepth 100000 in
set_option maxHeartbeats 2000000 in
theorem rright_any (m : Nat) (hm : m < 18446744073709551616) (n : Int) (w : World) :
    Calls Tryd.prog 43 #[.int .u64 m, .int .i64 n] w fun e w' => e = .returned (.bool (mrightB m n)) ∧ Below w.heap.size w w' := by
  obtain ⟨R, HR⟩ := nm (mrightB m n)
  rw [HR.out]
  go_enter Tryd.func43, Tryd.ntmps43
  go_wp2_with fail
  refine (rmembers_any m hm _).mono ?_
  rintro e w1 ⟨v1, rfl, ho, hb⟩
  obtain ⟨a, c, rfl, hl64, hlc, hcm, hcs⟩ := members_cells ho
  clear ho
  by_cases h1 : n < 1
  · have hr := right_out (m := m) (n := n) (.inl h1)
    have hd : decide (1 ≤ n) = false := decide_eq_false (by omega)
    obtain ⟨L, HL⟩ := nm (members m).length
    rw [HL.out] at hlc hl64 ⊢
    rw [HR.out] at hr
    have HRR := Lib.hid hr
    clear hr hcs
    go_wp2_with fail
    go_ret
    exact ⟨by first | (rw [HRR.out]; done) | (rw [HRR.out]; rfl), hb⟩
  have hd : decide (1 ≤ n) = true := decide_eq_true (by omega)
  by_cases h2 : 64 < n
  · have hr := right_out (m := m) (n := n) (.inr h2)
    have hd2 : decide (n ≤ 64) = false := decide_eq_false (by omega)
    obtain ⟨L, HL⟩ := nm (members m).length
    rw [HL.out] at hlc hl64 ⊢
    rw [HR.out] at hr
    have HRR := Lib.hid hr
    clear hr hcs
    go_wp2_with fail
    go_ret
    exact ⟨by first | (rw [HRR.out]; done) | (rw [HRR.out]; rfl), hb⟩
  have hd2 : decide (n ≤ 64) = true := decide_eq_true (by omega)
  by_cases h3 : (members m).length = 0
  · have hr := right_none hm n h3
    obtain ⟨L, HL⟩ := nm (members m).length
    rw [HL.out] at hlc h3 hl64 ⊢
    rw [HR.out] at hr
    have HRR := Lib.hid hr
    have hd3 : decide (0 < (L : Int)) = false := decide_eq_false (by omega)
    have hd4 : decide (0 < L) = false := decide_eq_false (by omega)
    clear hr hcs h3
    go_wp2_with fail
    go_ret
    exact ⟨by first | (rw [HRR.out]; done) | (rw [HRR.out]; rfl), hb⟩
  · have hr := right_ref hm n (by omega) (by omega) (show 0 < (members m).length by omega)
    obtain ⟨b, o, rfl, hcell⟩ := hcs.resolve_left h3
    have cL := hcell ((members m).length - 1) (by omega)
    obtain ⟨z, HZ⟩ := nm (mat m ((members m).length - 1))
    rw [HZ.out] at hr cL
    obtain ⟨L, HL⟩ := nm (members m).length
    rw [HL.out] at hlc h3 hl64 cL ⊢
    rw [HR.out] at hr
    have HRR := Lib.hid hr
    have hd3 : decide (0 < (L : Int)) = true := decide_eq_true (by omega)
    have hd4 : decide (0 < L) = true := decide_eq_true (by omega)
    have hw1 : IntKind.i64.wrap ((L : Int) - 1) = ((L - 1 : Nat) : Int) := by rw [IntWalk.i64_in _ (by omega)]; omega
    obtain ⟨q, HQ⟩ := nm (L - 1)
    have hqn : (q : Int) < (L : Int) := by have := HQ.out; omega
    have hq0 : (0 : Int) ≤ (q : Int) := by omega
    rw [HQ.out] at hw1 cL
    clear hr hcell h3 hcs
    go_wp2_with fail
    go_ret
    exact ⟨by first | (rw [HRR.out]; done) | (rw [HRR.out]; rfl), hb⟩

set_option maxRecDepth 100000 in
set_option maxHeartbeats 2000000 in
theorem rnext_any (m : Nat) (hm : m < 18446744073709551616) (c : Int) (w : World) :
    Calls Tryd.prog 44 #[.int .u64 m, .int .i64 c] w fun e w' => e = .returned (.int .i64 (rnextI m c)) ∧ Below w.heap.size w w' := by
  have HAT := Lib.hid (fun j h1 h2 h3 => rnext_at (m := m) (j := j) (c := c) h1 h2 h3)
  have HOV := Lib.hid (fun h => rnext_over (m := m) (c := c) h)
  obtain ⟨R, HR⟩ := nm (rnextI m c)
  rw [HR.out] at HOV ⊢
  simp only [HR.out] at HAT
  go_enter Tryd.func44, Tryd.ntmps44
  go_wp2_with fail
  refine (rmembers_any m hm _).mono ?_
  rintro e w1 ⟨v1, rfl, ho, hb⟩
  obtain ⟨a, cp, rfl, hl64, hlc, hcm, hcs⟩ := members_cells ho
  obtain ⟨L, HL⟩ := nm (members m).length
  rw [HL.out] at hlc hl64 hcs HOV ⊢
  simp only [HL.out] at HAT
  have HCS := Lib.hid hcs
  clear ho hcs
  go_wp2_with fail
  go_loopw [6] (fun vi wr => ∃ i : Nat, i ≤ L ∧ vi = .int .i64 (i : Int) ∧ Hid (∀ j, j < i → mat m j < c) ∧ w1 = wr) (fun vi _ => L - (intOf vi).toNat)
  case atStart => exact ⟨0, Nat.zero_le _, rfl, Lib.hid (fun j h => by omega), rfl⟩
  case round =>
    obtain ⟨i, hi, rfl, HK, rfl⟩ := hrel
    by_cases hlt : i < L
    · obtain ⟨b, o, rfl, hcell⟩ := HCS.out.resolve_left (fun h => by omega)
      have ck := hcell i hlt
      have hat := HAT.out i hlt HK.out
      have HNX := Lib.hid (fun (h : mat m i < c) => (show ∀ j, j < i + 1 → mat m j < c from fun j hj => by
        by_cases e : j = i
        · rw [e]; exact h
        · exact HK.out j (by omega)))
      obtain ⟨x, HX⟩ := nm (mat m i)
      rw [HX.out] at ck hat HNX
      have HATT := Lib.hid hat
      clear hcell hat
      by_cases hge : c ≤ x
      · have hd : decide (c ≤ x) = true := decide_eq_true hge
        have HRR := Lib.hid (HATT.out hge)
        go_wp2_with fail
        go_ret
        exact ⟨by first | (rw [HRR.out]; done) | (rw [HRR.out]; rfl), hb⟩
      · have hd : decide (c ≤ x) = false := decide_eq_false hge
        go_wp2_with fail
        go_roundw
        case rel => exact ⟨i + 1, by omega, by go_num, Lib.hid (HNX.out (by omega)), trivial⟩
        case measure => simp [intOf]; omega
    · obtain rfl : i = L := by omega
      have HRR := Lib.hid (HOV.out (fun j hj => HK.out j hj))
      go_wp2_with fail
      go_ret
      exact ⟨by first | (rw [HRR.out]; done) | (rw [HRR.out]; rfl), hb⟩

set_option maxRecDepth 100000 in
set_option maxHeartbeats 2000000 in
theorem rnear_any (m : Nat) (hm : m < 18446744073709551616) (h0 : m ≠ 0) (c : Int) (hc : -9223372036854775808 ≤ c ∧ c ≤ 9223372036854775807) (w : World) :
    Calls Tryd.prog 45 #[.int .u64 m, .int .i64 c] w fun e w' => e = .returned (.int .i64 (nearI m c)) ∧ Below w.heap.size w w' := by
  have hne := rnear_eq hm h0 c
  have hnx := rnext_any m hm c
  have hbd := fun i h => befI_bd (m := m) (c := c) i h
  have hrb : -1 ≤ rnextI m c ∧ rnextI m c < 64 := by
    by_cases h : ∀ i, i < (members m).length → mat m i < c
    · rw [rnext_over h]; decide
    · obtain ⟨p, h1, h2, h3⟩ := cut_at m c _ (Nat.le_refl (members m).length)
      by_cases e : p = (members m).length
      · exact absurd (fun i hi => h2 i (by omega)) h
      · rw [rnext_at (m := m) (j := p) (by omega) h2 (h3 p (Nat.le_refl _) (by omega))]
        have := mat_bd (m := m) (j := p) (by omega)
        omega
  have hafter : 0 ≤ rnextI m c → c ≤ rnextI m c := by
    intro h
    obtain ⟨p, h1, h2, h3⟩ := cut_at m c _ (Nat.le_refl (members m).length)
    by_cases e : p = (members m).length
    · rw [rnext_over (fun i hi => h2 i (by omega))] at h; omega
    · rw [rnext_at (m := m) (j := p) (by omega) h2 (h3 p (Nat.le_refl _) (by omega))]
      exact h3 p (Nat.le_refl _) (by omega)
  have hbef : ∀ i, 0 ≤ befI m c i → befI m c i < c := by
    intro i
    induction i with
    | zero => intro h; exact absurd h (by unfold befI; omega)
    | succ i ih =>
      unfold befI
      intro h
      by_cases hq : mat m i < c
      · rw [if_pos hq]; exact hq
      · rw [if_neg hq] at h ⊢; exact ih h
  obtain ⟨A, HA⟩ := nm (rnextI m c)
  rw [HA.out] at hne hrb hafter
  simp only [HA.out] at hnx
  obtain ⟨R, HR⟩ := nm (nearI m c)
  rw [HR.out] at hne ⊢
  have HNE := Lib.hid hne
  have HNX := Lib.hid hnx
  have HBD := Lib.hid hbd
  have HAF := Lib.hid hafter
  have HBF := Lib.hid hbef
  clear hne hnx hbd hafter hbef
  go_enter Tryd.func45, Tryd.ntmps45
  go_wp2_with fail
  refine (rmembers_any m hm _).mono ?_
  rintro e w1 ⟨v1, rfl, ho, hb⟩
  obtain ⟨a, cp, rfl, hl64, hlc, hcm, hcs⟩ := members_cells ho
  obtain ⟨L, HL⟩ := nm (members m).length
  rw [HL.out] at hlc hl64 hcs HNE ⊢
  simp only [HL.out] at HBD
  have HCS := Lib.hid hcs
  have HB := Lib.hid hb
  clear ho hcs hb
  go_wp2_with fail
  refine (HNX.out _).mono ?_
  rintro e w2 ⟨rfl, hb2⟩
  have HB2 := Lib.hid (HB.out.trans (hb2.mono HB.out.size))
  have HB12 := Lib.hid hb2
  clear hb2
  go_wp2_with fail
  go_loopw [6, 8] (fun vb vi wr => ∃ i : Nat, i ≤ L ∧ vi = .int .i64 (i : Int) ∧ vb = .int .i64 (befI m c i) ∧ w2 = wr) (fun _ vi _ => L - (intOf vi).toNat)
  case atStart => exact ⟨0, Nat.zero_le _, rfl, rfl, rfl⟩
  case round =>
    obtain ⟨i, hi, rfl, rfl, rfl⟩ := hrel
    by_cases hlt : i < L
    · obtain ⟨b, o, rfl, hcell⟩ := HCS.out.resolve_left (fun h => by omega)
      have ck := cell_keep HB12.out (hcell i hlt) (cell_lt (hcell i hlt))
      have hst : befI m c (i + 1) = if mat m i < c then mat m i else befI m c i := rfl
      obtain ⟨x, HX⟩ := nm (mat m i)
      rw [HX.out] at ck hst
      obtain ⟨B, HBB⟩ := nm (befI m c i)
      rw [HBB.out] at hst ⊢
      clear hcell
      by_cases hge : x < c
      · have hd : decide (x < c) = true := decide_eq_true hge
        rw [if_pos hge] at hst
        have HST := Lib.hid hst
        clear hst
        go_wp2_with fail
        go_roundw
        case rel => exact ⟨i + 1, by omega, by go_num, by rw [HST.out], trivial⟩
        case measure => simp [intOf]; omega
      · have hd : decide (x < c) = false := decide_eq_false hge
        rw [if_neg hge] at hst
        have HST := Lib.hid hst
        clear hst
        go_wp2_with fail
        go_roundw
        case rel => exact ⟨i + 1, by omega, by go_num, by rw [HST.out], trivial⟩
        case measure => simp [intOf]; omega
    · obtain rfl : i = L := by omega
      have hBb := HBD.out i (Nat.le_refl _)
      have hBf := HBF.out i
      have hne := HNE.out
      obtain ⟨B, HBB⟩ := nm (befI m c i)
      rw [HBB.out] at hBb hBf hne ⊢
      unfold rnearI at hne
      by_cases q1 : B < 0
      · have hd1 : decide (B < 0) = true := decide_eq_true q1
        rw [if_pos q1] at hne
        have HRR := Lib.hid hne.symm
        clear hne
        go_wp2_with fail
        go_ret
        exact ⟨by first | (rw [HRR.out]; done) | (rw [HRR.out]; rfl), HB2.out⟩
      · have hd1 : decide (B < 0) = false := decide_eq_false q1
        rw [if_neg q1] at hne
        have hBc := hBf (by omega)
        by_cases q2 : A < 0
        · have hd2 : decide (A < 0) = true := decide_eq_true q2
          rw [if_pos (Or.inl q2)] at hne
          have HRR := Lib.hid hne.symm
          clear hne
          go_wp2_with fail
          go_ret
          exact ⟨by first | (rw [HRR.out]; done) | (rw [HRR.out]; rfl), HB2.out⟩
        · have hd2 : decide (A < 0) = false := decide_eq_false q2
          have hAc := HAF.out (by omega)
          have hw1 : IntKind.i64.wrap (c - B) = c - B := IntWalk.i64_in _ (by omega)
          have hw2 : IntKind.i64.wrap (A - c) = A - c := IntWalk.i64_in _ (by omega)
          by_cases q3 : c - B ≤ A - c
          · have hd3 : decide (c - B ≤ A - c) = true := decide_eq_true q3
            rw [if_pos (Or.inr q3)] at hne
            have HRR := Lib.hid hne.symm
            clear hne
            go_wp2_with fail
            go_ret
            exact ⟨by first | (rw [HRR.out]; done) | (rw [HRR.out]; rfl), HB2.out⟩
          · have hd3 : decide (c - B ≤ A - c) = false := decide_eq_false q3
            rw [if_neg (by omega)] at hne
            have HRR := Lib.hid hne.symm
            clear hne
            go_wp2_with fail
            go_ret
            exact ⟨by first | (rw [HRR.out]; done) | (rw [HRR.out]; rfl), HB2.out⟩
end Go.Proofs.YtjpkldndeakkkaaDoor
