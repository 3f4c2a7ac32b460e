/- The walks of quantumkit.SameInts and SameBytes. -/
import Derived.Test.YtmjigpnpcacefaaDoorOwnV
import Derived.WalkSmall
import Derived.Deep.QuietTactic
import Derived.BigQuiet
namespace Go.Proofs.YtmjigpnpcacefaaDoor
open Go Go.RowKit Go.Shelf

theorem same_ext {α : Type} [Inhabited α] {d : α} {xs ys : List α} (hl : xs.length = ys.length) (h : ∀ j, j < xs.length → xs[j]?.getD d = ys[j]?.getD d) : xs = ys := by
  apply List.ext_getElem hl
  intro i h1 h2
  have := h i h1
  rwa [List.getElem?_eq_getElem h1, List.getElem?_eq_getElem h2] at this
set_option maxRecDepth 100000 in
set_option maxHeartbeats 2000000 in
theorem sameInts_any (va vb : Value) (xs ys : List Int) (w : World) (ha : ReadsI .i64 w va xs) (hb : ReadsI .i64 w vb ys) (hl : xs.length < 100000000) :
    Calls Tryd.prog 16 #[va, vb] w fun e w' => e = .returned (.bool (decide (xs = ys))) ∧ Below w.heap.size w w' := by
  have hlb := hb.len
  obtain ⟨aa, ca, rfl, hlca, hcma, hcsa⟩ := ha
  obtain ⟨ab, cb, rfl, hlcb, hcmb, hcsb⟩ := hb
  by_cases hne : xs.length = ys.length
  · have hall : (∀ j, j < xs.length → xs[j]?.getD 0 = ys[j]?.getD 0) → decide (xs = ys) = true := fun h => decide_eq_true (same_ext hne h)
    have hnot : ∀ j, j < xs.length → xs[j]?.getD 0 ≠ ys[j]?.getD 0 → decide (xs = ys) = false := fun j _ h => decide_eq_false (fun e => h (by rw [e]))
    rw [← hne] at hlcb hcsb ⊢
    obtain ⟨r, HR⟩ := nm (decide (xs = ys))
    simp only [HR.out] at hall hnot
    rw [HR.out]
    obtain ⟨n, HN⟩ := nm xs.length
    rw [HN.out] at hlca hlcb hl hcsa hcsb
    simp only [HN.out] at hall hnot
    rw [HN.out]
    have HALL := Lib.hid hall
    have HNOT := Lib.hid hnot
    clear hall hnot hne hlb
    go_enter Tryd.func16, Tryd.ntmps16
    go_wp2_with fail
    go_loopw [5] (fun vi wr => ∃ k : Nat, k ≤ n ∧ vi = .int .i64 (k : Int) ∧ Hid (∀ j, j < k → xs[j]?.getD 0 = ys[j]?.getD 0) ∧ Below w.heap.size w wr) (fun vi _ => n - (intOf vi).toNat)
    case atStart => exact ⟨0, Nat.zero_le _, rfl, Lib.hid (fun j h => absurd h (Nat.not_lt_zero _)), bel_refl _⟩
    case round =>
      obtain ⟨k, hk, rfl, HK, hBr⟩ := hrel
      by_cases hlt : k < n
      · obtain ⟨b1, o1, rfl, hc1⟩ := hcsa.resolve_left (fun h => by omega)
        obtain ⟨b2, o2, rfl, hc2⟩ := hcsb.resolve_left (fun h => by omega)
        have c1 := cell_keep hBr (hc1 k hlt) (cell_lt (hc1 k hlt))
        have c2 := cell_keep hBr (hc2 k hlt) (cell_lt (hc2 k hlt))
        have HN2 := HNOT.out k hlt
        have HXY : Hid ((xs[k]?.getD 0 = ys[k]?.getD 0) ∨ ¬ (xs[k]?.getD 0 = ys[k]?.getD 0)) := Lib.hid (Classical.em _)
        have HST : Hid (xs[k]?.getD 0 = ys[k]?.getD 0 → ∀ j, j < k + 1 → xs[j]?.getD 0 = ys[j]?.getD 0) := Lib.hid (fun e j hj => by
          rcases Nat.lt_or_ge j k with h | h
          · exact HK.out j h
          · obtain rfl : j = k := by omega
            exact e)
        obtain ⟨x, HX⟩ := nm (xs[k]?.getD 0)
        obtain ⟨y, HY⟩ := nm (ys[k]?.getD 0)
        rw [HX.out] at c1
        rw [HY.out] at c2
        rw [HX.out, HY.out] at HN2 HXY HST
        have HNN := Lib.hid HN2
        have hi0 : (0 : Int) ≤ (k : Int) := by omega
        have hi1 : (k : Int) < (n : Int) := by omega
        clear HN2 hc1 hc2 hcsa hcsb
        rcases HXY.out with hxy | hxy
        · have q1 : ((x == y) : Bool) = true := by rw [hxy]; simp
          have q2 : ((x != y) : Bool) = false := by rw [hxy]; simp
          have HSS := Lib.hid (HST.out hxy)
          clear hxy HXY HST HNN
          go_wp2_with fail
          go_quiet (fail)
          go_wp2_with fail
          go_roundw
          case rel => exact ⟨k + 1, by omega, by go_num, HSS, below_drewN hBr _⟩
          case measure => simp [intOf]; omega
        · have q1 : ((x == y) : Bool) = false := beq_false_of_ne (by omega)
          have q2 : ((x != y) : Bool) = true := by simp only [bne, q1]; rfl
          have HRR := Lib.hid (HNN.out hxy)
          clear hxy HXY HST HNN
          go_wp2_with fail
          go_quiet (fail)
          go_wp2_with fail
          go_ret
          exact ⟨by rw [HRR.out]; rfl, below_drewN hBr _⟩
      · obtain rfl : k = n := by omega
        have HRR := Lib.hid (HALL.out HK.out)
        clear hcsa hcsb
        go_wp2_with fail
        go_ret
        exact ⟨by rw [HRR.out]; rfl, hBr⟩
  · have hd : decide (xs = ys) = false := decide_eq_false (fun e => hne (by rw [e]))
    rw [hd]
    obtain ⟨n, HN⟩ := nm xs.length
    obtain ⟨m, HM⟩ := nm ys.length
    rw [HN.out] at hlca hl hne hcsa
    rw [HM.out] at hlcb hlb hne hcsb
    rw [HN.out, HM.out]
    have q1 : ((n : Int) == (m : Int)) = false := beq_false_of_ne (by omega)
    have q2 : ((n : Int) != (m : Int)) = true := by simp only [bne, q1]; rfl
    clear hcsa hcsb hne hd
    go_enter Tryd.func16, Tryd.ntmps16
    go_wp2_with fail
    go_ret
    exact ⟨rfl, bel_refl _⟩

set_option maxRecDepth 100000 in
set_option maxHeartbeats 2000000 in
theorem sameBytes_any (va vb : Value) (xs ys : List Nat) (w : World) (ha : Reads .u8 w va xs) (hb : Reads .u8 w vb ys) (hl : xs.length < 100000000) :
    Calls Tryd.prog 15 #[va, vb] w fun e w' => e = .returned (.bool (decide (xs = ys))) ∧ Below w.heap.size w w' := by
  have hlb := hb.len
  obtain ⟨aa, ca, rfl, hlca, hcma, hcsa⟩ := ha
  obtain ⟨ab, cb, rfl, hlcb, hcmb, hcsb⟩ := hb
  by_cases hne : xs.length = ys.length
  · have hall : (∀ j, j < xs.length → xs[j]?.getD 0 = ys[j]?.getD 0) → decide (xs = ys) = true := fun h => decide_eq_true (same_ext hne h)
    have hnot : ∀ j, j < xs.length → xs[j]?.getD 0 ≠ ys[j]?.getD 0 → decide (xs = ys) = false := fun j _ h => decide_eq_false (fun e => h (by rw [e]))
    rw [← hne] at hlcb hcsb ⊢
    obtain ⟨r, HR⟩ := nm (decide (xs = ys))
    simp only [HR.out] at hall hnot
    rw [HR.out]
    obtain ⟨n, HN⟩ := nm xs.length
    rw [HN.out] at hlca hlcb hl hcsa hcsb
    simp only [HN.out] at hall hnot
    rw [HN.out]
    have HALL := Lib.hid hall
    have HNOT := Lib.hid hnot
    clear hall hnot hne hlb
    go_enter Tryd.func15, Tryd.ntmps15
    go_wp2_with fail
    go_loopw [5] (fun vi wr => ∃ k : Nat, k ≤ n ∧ vi = .int .i64 (k : Int) ∧ Hid (∀ j, j < k → xs[j]?.getD 0 = ys[j]?.getD 0) ∧ Below w.heap.size w wr) (fun vi _ => n - (intOf vi).toNat)
    case atStart => exact ⟨0, Nat.zero_le _, rfl, Lib.hid (fun j h => absurd h (Nat.not_lt_zero _)), bel_refl _⟩
    case round =>
      obtain ⟨k, hk, rfl, HK, hBr⟩ := hrel
      by_cases hlt : k < n
      · obtain ⟨b1, o1, rfl, hc1⟩ := hcsa.resolve_left (fun h => by omega)
        obtain ⟨b2, o2, rfl, hc2⟩ := hcsb.resolve_left (fun h => by omega)
        have c1 := cell_keep hBr (hc1 k hlt) (cell_lt (hc1 k hlt))
        have c2 := cell_keep hBr (hc2 k hlt) (cell_lt (hc2 k hlt))
        have HN2 := HNOT.out k hlt
        have HXY : Hid ((xs[k]?.getD 0 = ys[k]?.getD 0) ∨ ¬ (xs[k]?.getD 0 = ys[k]?.getD 0)) := Lib.hid (Classical.em _)
        have HST : Hid (xs[k]?.getD 0 = ys[k]?.getD 0 → ∀ j, j < k + 1 → xs[j]?.getD 0 = ys[j]?.getD 0) := Lib.hid (fun e j hj => by
          rcases Nat.lt_or_ge j k with h | h
          · exact HK.out j h
          · obtain rfl : j = k := by omega
            exact e)
        obtain ⟨x, HX⟩ := nm (xs[k]?.getD 0)
        obtain ⟨y, HY⟩ := nm (ys[k]?.getD 0)
        rw [HX.out] at c1
        rw [HY.out] at c2
        rw [HX.out, HY.out] at HN2 HXY HST
        have HNN := Lib.hid HN2
        have hi0 : (0 : Int) ≤ (k : Int) := by omega
        have hi1 : (k : Int) < (n : Int) := by omega
        clear HN2 hc1 hc2 hcsa hcsb
        rcases HXY.out with hxy | hxy
        · have q1 : (((x : Int) == (y : Int)) : Bool) = true := by rw [hxy]; simp
          have q2 : (((x : Int) != (y : Int)) : Bool) = false := by rw [hxy]; simp
          have HSS := Lib.hid (HST.out hxy)
          clear hxy HXY HST HNN
          go_wp2_with fail
          go_quiet (fail)
          go_wp2_with fail
          go_roundw
          case rel => exact ⟨k + 1, by omega, by go_num, HSS, below_drewN hBr _⟩
          case measure => simp [intOf]; omega
        · have q1 : (((x : Int) == (y : Int)) : Bool) = false := beq_false_of_ne (by omega)
          have q2 : (((x : Int) != (y : Int)) : Bool) = true := by simp only [bne, q1]; rfl
          have HRR := Lib.hid (HNN.out hxy)
          clear hxy HXY HST HNN
          go_wp2_with fail
          go_quiet (fail)
          go_wp2_with fail
          go_ret
          exact ⟨by rw [HRR.out]; rfl, below_drewN hBr _⟩
      · obtain rfl : k = n := by omega
        have HRR := Lib.hid (HALL.out HK.out)
        clear hcsa hcsb
        go_wp2_with fail
        go_ret
        exact ⟨by rw [HRR.out]; rfl, hBr⟩
  · have hd : decide (xs = ys) = false := decide_eq_false (fun e => hne (by rw [e]))
    rw [hd]
    obtain ⟨n, HN⟩ := nm xs.length
    obtain ⟨m, HM⟩ := nm ys.length
    rw [HN.out] at hlca hl hne hcsa
    rw [HM.out] at hlcb hlb hne hcsb
    rw [HN.out, HM.out]
    have q1 : ((n : Int) == (m : Int)) = false := beq_false_of_ne (by omega)
    have q2 : ((n : Int) != (m : Int)) = true := by simp only [bne, q1]; rfl
    clear hcsa hcsb hne hd
    go_enter Tryd.func15, Tryd.ntmps15
    go_wp2_with fail
    go_ret
    exact ⟨rfl, bel_refl _⟩
end Go.Proofs.YtmjigpnpcacefaaDoor
