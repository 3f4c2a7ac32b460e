/- The reference of what stays at both ends: the walk of Ends. -/
import Derived.Test.YtmjigpnpcacefaaGreatDoorDmgH
import Derived.Deep.QuietTactic
import Derived.BigQuiet
namespace Go.Proofs.YtmjigpnpcacefaaGreatDoor
open Go Go.RowKit Go.Shelf

theorem ends_back (xs ys : List Nat) {k n m : Nat} (h : comPre xs ys = k) (hx : xs.length = n) (hy : ys.length = m) (hkn : k ≤ n) (hkm : k ≤ m) (j : Nat) (h1 : k + j ≤ n) (h2 : k + j ≤ m)
    (h3 : ∀ i, i < j → xs[n - 1 - i]?.getD 0 = ys[m - 1 - i]?.getD 0) (h4 : k + j = n ∨ k + j = m ∨ xs[n - 1 - j]?.getD 0 ≠ ys[m - 1 - j]?.getD 0) : endsM xs ys = j := by
  obtain ⟨us, vs, ru, rv, h5, h6, h7, h8⟩ := ends_plain xs ys k h hx hy hkn hkm
  have g1 : ∀ i, i < n - k → ru[i]?.getD 0 = xs[n - 1 - i]?.getD 0 := fun i hi => by
    rw [h6.out i hi, h5.out.1, List.getElem?_drop, show k + (n - k - 1 - i) = n - 1 - i by omega]
  have g2 : ∀ i, i < m - k → rv[i]?.getD 0 = ys[m - 1 - i]?.getD 0 := fun i hi => by
    rw [h7.out i hi, h5.out.2, List.getElem?_drop, show k + (m - k - 1 - i) = m - 1 - i by omega]
  refine h8.out j (by omega) (by omega) (fun i hi => ?_) ?_
  · rw [g1 i (by omega), g2 i (by omega)]; exact h3 i hi
  · rcases h4 with h4 | h4 | h4
    · exact .inl (by omega)
    · exact .inr (.inl (by omega))
    · by_cases e1 : j = n - k
      · exact .inl e1
      · by_cases e2 : j = m - k
        · exact .inr (.inl e2)
        · right; right
          rw [g1 j (by omega), g2 j (by omega)]; exact h4

set_option maxRecDepth 100000 in
set_option maxHeartbeats 8000000 in
theorem rends_any (va vb : Value) (xs ys : List Nat) (w : World) (ha : Reads .u8 w va xs) (hb : Reads .u8 w vb ys) (hxl : xs.length < 400000) (hyl : ys.length < 400000) :
    Calls Tryz.prog 40 #[va, vb] w fun e w' => e = .returned (.tuple #[.int .i64 (endsN xs ys : Nat), .int .i64 (endsM xs ys : Nat)]) ∧ Below w.heap.size w w' := by
  obtain ⟨aa, ca, rfl, hlca, hcma, hcsa⟩ := ha
  obtain ⟨ab, cb, rfl, hlcb, hcmb, hcsb⟩ := hb
  have heq := fun n => comPre_eq n xs ys
  have hbk := fun k h => ends_back xs ys (k := k) (n := xs.length) (m := ys.length) h rfl rfl
  obtain ⟨n, HN⟩ := nm xs.length
  obtain ⟨m, HM⟩ := nm ys.length
  rw [HN.out] at hlca hxl hcsa
  rw [HM.out] at hlcb hyl hcsb
  simp only [HN.out, HM.out] at heq hbk
  rw [HN.out, HM.out]
  have HEQ := Lib.hid heq
  have HBK := Lib.hid hbk
  have hEN : endsN xs ys = comPre xs ys := rfl
  rw [hEN]
  obtain ⟨E1, HE1⟩ := nm (comPre xs ys)
  obtain ⟨E2, HE2⟩ := nm (endsM xs ys)
  simp only [HE1.out] at HEQ HBK
  simp only [HE2.out] at HBK
  rw [HE1.out, HE2.out]
  have HA := Lib.hid hcsa
  have HBB := Lib.hid hcsb
  clear heq hbk hEN hcsa hcsb
  go_enter Tryz.func40, Tryz.ntmps40
  go_wp2_with fail
  go_loopw [6] (fun vn wr => ∃ k : Nat, k ≤ n ∧ k ≤ m ∧ vn = .int .i64 (k : Int) ∧ Hid (∀ j, j < k → xs[j]?.getD 0 = ys[j]?.getD 0) ∧ Below w.heap.size w wr) (fun vn _ => n - (intOf vn).toNat)
  case atStart => exact ⟨0, Nat.zero_le _, Nat.zero_le _, rfl, Lib.hid (fun j h => absurd h (Nat.not_lt_zero _)), bel_refl _⟩
  case round =>
    obtain ⟨k, hkn, hkm, rfl, HK, hBr⟩ := hrel
    have HL := Lib.hid (HEQ.out k hkn hkm HK.out)
    have HB := Lib.hid hBr
    by_cases hgo : k < n ∧ k < m ∧ xs[k]?.getD 0 = ys[k]?.getD 0
    · obtain ⟨h1, h2, h3⟩ := hgo
      obtain ⟨b1, o1, rfl, hc1⟩ := HA.out.resolve_left (fun h => by omega)
      obtain ⟨b2, o2, rfl, hc2⟩ := HBB.out.resolve_left (fun h => by omega)
      have c1 := cell_keep hBr (hc1 k h1) (cell_lt (hc1 k h1))
      have c2 := cell_keep hBr (hc2 k h2) (cell_lt (hc2 k h2))
      rw [← h3] at c2
      have HKN := Lib.hid (show ∀ j, j < k + 1 → xs[j]?.getD 0 = ys[j]?.getD 0 from fun j hj => by
        by_cases e : j = k
        · rw [e]; exact h3
        · exact HK.out j (by omega))
      obtain ⟨x, HX⟩ := nm (xs[k]?.getD 0)
      rw [HX.out] at c1 c2
      have i1 : (k : Int) < (n : Int) := by omega
      have i2 : (k : Int) < (m : Int) := by omega
      clear hc1 hc2 hBr h3
      go_wp2_with fail
      go_quiet (fail)
      go_wp2_with fail
      go_roundw
      case rel => exact ⟨k + 1, by omega, by omega, by go_num, HKN, below_drewN HB.out _⟩
      case measure => simp [intOf]; omega
    · have hE : E1 = k := HL.out (by
        by_cases q1 : k = n
        · exact .inl q1
        · by_cases q2 : k = m
          · exact .inr (.inl q2)
          · exact .inr (.inr (fun q => hgo ⟨by omega, by omega, q⟩)))
      have HEK := Lib.hid hE
      have hbk2 := HBK.out k hE hkn hkm
      have HBK2 := Lib.hid hbk2
      clear hE hbk2
      by_cases h1 : k < n
      case' neg =>
        have i2 : decide ((k : Int) < (n : Int)) = false := decide_eq_false (by omega)
        have i3 : decide (k < n) = false := decide_eq_false h1
        clear hBr hgo
        go_wp2_with fail
        go_quiet (fail)
        go_wp2_with fail
      case' pos =>
        obtain ⟨b1, o1, rfl, hc1⟩ := HA.out.resolve_left (fun h => by omega)
        have i1 : (k : Int) < (n : Int) := by omega
        have c1 := cell_keep hBr (hc1 k h1) (cell_lt (hc1 k h1))
        by_cases h2 : k < m
        case' pos =>
          obtain ⟨b2, o2, rfl, hc2⟩ := HBB.out.resolve_left (fun h => by omega)
          have c2 := cell_keep hBr (hc2 k h2) (cell_lt (hc2 k h2))
          have hne : ¬ xs[k]?.getD 0 = ys[k]?.getD 0 := fun q => hgo ⟨h1, h2, q⟩
          obtain ⟨x, HX⟩ := nm (xs[k]?.getD 0)
          obtain ⟨y, HY⟩ := nm (ys[k]?.getD 0)
          rw [HX.out] at c1
          rw [HY.out] at c2
          rw [HX.out, HY.out] at hne
          have hq : ((x : Int) == (y : Int)) = false := beq_false_of_ne (by omega)
          have i2 : (k : Int) < (m : Int) := by omega
          clear hc1 hc2 hBr hgo hne
          go_wp2_with fail
          go_quiet (fail)
          go_wp2_with fail
        case' neg =>
          have i2 : decide ((k : Int) < (m : Int)) = false := decide_eq_false (by omega)
          have i3 : decide (k < m) = false := decide_eq_false h2
          clear hc1 hBr hgo c1
          go_wp2_with fail
          go_quiet (fail)
          go_wp2_with fail
      all_goals
        have HB2 := Lib.hid (below_drewN HB.out nq)
        obtain ⟨wo, HWO⟩ := nm (wr.drewN nq)
        rw [HWO.out] at HB2 ⊢
        try clear c1
        try clear c2
        go_loopw [7] (fun vj wr => ∃ j : Nat, k + j ≤ n ∧ k + j ≤ m ∧ vj = .int .i64 (j : Int) ∧ Hid (∀ i, i < j → xs[n - 1 - i]?.getD 0 = ys[m - 1 - i]?.getD 0) ∧ Below w.heap.size w wr) (fun vj _ => n - (intOf vj).toNat)
        case atStart => exact ⟨0, by omega, by omega, rfl, Lib.hid (fun i h => absurd h (Nat.not_lt_zero _)), HB2.out⟩
        case round =>
          obtain ⟨j, hjn, hjm, rfl, HJ, hBj⟩ := hrel
          have HBJ := Lib.hid hBj
          have HFIN := Lib.hid (HBK2.out j hjn hjm HJ.out)
          have hwk : IntKind.i64.wrap ((k : Int) + (j : Int)) = ((k + j : Nat) : Int) := by rw [IntWalk.i64_in _ (by omega)]; omega
          by_cases hgo2 : k + j < n ∧ k + j < m ∧ xs[n - 1 - j]?.getD 0 = ys[m - 1 - j]?.getD 0
          · obtain ⟨g1, g2, g3⟩ := hgo2
            obtain ⟨d1, p1, e1, hd1⟩ := HA.out.resolve_left (fun h => by omega)
            obtain ⟨d2, p2, e2, hd2⟩ := HBB.out.resolve_left (fun h => by omega)
            first | subst e1 | (cases e1)
            first | subst e2 | (cases e2)
            have f1 := cell_keep hBj (hd1 (n - 1 - j) (by omega)) (cell_lt (hd1 (n - 1 - j) (by omega)))
            have f2 := cell_keep hBj (hd2 (m - 1 - j) (by omega)) (cell_lt (hd2 (m - 1 - j) (by omega)))
            rw [← g3] at f2
            have HKN := Lib.hid (show ∀ i, i < j + 1 → xs[n - 1 - i]?.getD 0 = ys[m - 1 - i]?.getD 0 from fun i hi => by
              by_cases e : i = j
              · rw [e]; exact g3
              · exact HJ.out i (by omega))
            obtain ⟨x', HX'⟩ := nm (xs[n - 1 - j]?.getD 0)
            rw [HX'.out] at f1 f2
            have hw1 : IntKind.i64.wrap ((n : Int) - 1) = (n : Int) - 1 := IntWalk.i64_in _ (by omega)
            have hw2 : IntKind.i64.wrap ((n : Int) - 1 - (j : Int)) = ((n - 1 - j : Nat) : Int) := by rw [IntWalk.i64_in _ (by omega)]; omega
            have hw3 : IntKind.i64.wrap ((m : Int) - 1) = (m : Int) - 1 := IntWalk.i64_in _ (by omega)
            have hw4 : IntKind.i64.wrap ((m : Int) - 1 - (j : Int)) = ((m - 1 - j : Nat) : Int) := by rw [IntWalk.i64_in _ (by omega)]; omega
            obtain ⟨s, HS⟩ := nm (k + j)
            rw [HS.out] at hwk g1 g2
            obtain ⟨a1, HA1⟩ := nm (n - 1 - j)
            obtain ⟨a2, HA2⟩ := nm (m - 1 - j)
            rw [HA1.out] at f1 hw2
            rw [HA2.out] at f2 hw4
            have i4 : (s : Int) < (n : Int) := by omega
            have i5 : (s : Int) < (m : Int) := by omega
            have i6 : (a1 : Int) < (n : Int) := by have := HA1.out; omega
            have i7 : (a2 : Int) < (m : Int) := by have := HA2.out; omega
            have i8 : (0 : Int) ≤ (a1 : Int) := by omega
            have i9 : (0 : Int) ≤ (a2 : Int) := by omega
            clear hd1 hd2 g3 hBj
            go_wp2_with fail
            go_quiet (fail)
            go_wp2_with fail
            go_roundw
            case rel => exact ⟨j + 1, by have := HS.out; omega, by have := HS.out; omega, by go_num, HKN, below_drewN HBJ.out _⟩
            case measure => have := HS.out; simp [intOf]; omega
          · have hE2 : E2 = j := HFIN.out (by
              by_cases q1 : k + j = n
              · exact .inl q1
              · by_cases q2 : k + j = m
                · exact .inr (.inl q2)
                · exact .inr (.inr (fun q => hgo2 ⟨by omega, by omega, q⟩)))
            have HE2J := Lib.hid hE2
            clear hE2
            by_cases g1 : k + j < n
            case' neg =>
              obtain ⟨s, HS⟩ := nm (k + j)
              rw [HS.out] at hwk g1
              have i5 : decide ((s : Int) < (n : Int)) = false := decide_eq_false (by omega)
              have i6 : decide (s < n) = false := decide_eq_false g1
              clear hBj hgo2
              go_wp2_with fail
              go_quiet (fail)
              go_wp2_with fail
            case' pos =>
              by_cases g2 : k + j < m
              case' pos =>
                obtain ⟨d1, p1, e1, hd1⟩ := HA.out.resolve_left (fun h => by omega)
                obtain ⟨d2, p2, e2, hd2⟩ := HBB.out.resolve_left (fun h => by omega)
                first | subst e1 | (cases e1)
                first | subst e2 | (cases e2)
                have f1 := cell_keep hBj (hd1 (n - 1 - j) (by omega)) (cell_lt (hd1 (n - 1 - j) (by omega)))
                have f2 := cell_keep hBj (hd2 (m - 1 - j) (by omega)) (cell_lt (hd2 (m - 1 - j) (by omega)))
                have hne : ¬ xs[n - 1 - j]?.getD 0 = ys[m - 1 - j]?.getD 0 := fun q => hgo2 ⟨g1, g2, q⟩
                obtain ⟨x', HX'⟩ := nm (xs[n - 1 - j]?.getD 0)
                obtain ⟨y', HY'⟩ := nm (ys[m - 1 - j]?.getD 0)
                rw [HX'.out] at f1
                rw [HY'.out] at f2
                rw [HX'.out, HY'.out] at hne
                have hq2 : ((x' : Int) == (y' : Int)) = false := beq_false_of_ne (by omega)
                have hw1 : IntKind.i64.wrap ((n : Int) - 1) = (n : Int) - 1 := IntWalk.i64_in _ (by omega)
                have hw2 : IntKind.i64.wrap ((n : Int) - 1 - (j : Int)) = ((n - 1 - j : Nat) : Int) := by rw [IntWalk.i64_in _ (by omega)]; omega
                have hw3 : IntKind.i64.wrap ((m : Int) - 1) = (m : Int) - 1 := IntWalk.i64_in _ (by omega)
                have hw4 : IntKind.i64.wrap ((m : Int) - 1 - (j : Int)) = ((m - 1 - j : Nat) : Int) := by rw [IntWalk.i64_in _ (by omega)]; omega
                obtain ⟨s, HS⟩ := nm (k + j)
                rw [HS.out] at hwk g1 g2
                obtain ⟨a1, HA1⟩ := nm (n - 1 - j)
                obtain ⟨a2, HA2⟩ := nm (m - 1 - j)
                rw [HA1.out] at f1 hw2
                rw [HA2.out] at f2 hw4
                have i4 : (s : Int) < (n : Int) := by omega
                have i5 : (s : Int) < (m : Int) := by omega
                have i6 : (a1 : Int) < (n : Int) := by have := HA1.out; omega
                have i7 : (a2 : Int) < (m : Int) := by have := HA2.out; omega
                have i8 : (0 : Int) ≤ (a1 : Int) := by omega
                have i9 : (0 : Int) ≤ (a2 : Int) := by omega
                clear hd1 hd2 hBj hne hgo2
                go_wp2_with fail
                go_quiet (fail)
                go_wp2_with fail
              case' neg =>
                obtain ⟨s, HS⟩ := nm (k + j)
                rw [HS.out] at hwk g1 g2
                have i4 : (s : Int) < (n : Int) := by omega
                have i5 : decide ((s : Int) < (m : Int)) = false := decide_eq_false (by omega)
                have i6 : decide (s < m) = false := decide_eq_false g2
                clear hBj hgo2
                go_wp2_with fail
                go_quiet (fail)
                go_wp2_with fail
            all_goals
              go_ret2
              exact ⟨by first | (rw [HEK.out, HE2J.out]; done) | (rw [HEK.out, HE2J.out]; rfl), below_drewN HBJ.out _⟩
end Go.Proofs.YtmjigpnpcacefaaGreatDoor
