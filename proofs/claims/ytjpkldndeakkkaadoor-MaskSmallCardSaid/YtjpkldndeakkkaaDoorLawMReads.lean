/- The walk of the law MaskReads. -/
import Derived.Test.YtjpkldndeakkkaaDoorMRefE
import Derived.Test.YtjpkldndeakkkaaDoorMskI
namespace Go.Proofs.YtjpkldndeakkkaaDoor
open Go Go.RowKit Go.Shelf

set_option maxRecDepth 100000 in
set_option maxHeartbeats 2000000 in
theorem reads_any (sv : ByteArray) (w : World) (hE : EV w) :
    Calls Tryd.prog 12 #[.string sv] w fun e w' => e = .returned (.bool true) ∧ Below w.heap.size w w' := by
  obtain ⟨s, HS⟩ := nm sv.data.toList
  have hsv : sv = bstr s := by rw [← HS.out]; exact (bstr_toList sv).symm
  have hszv : sv.size = s.length := by rw [hsv, bstr_size]
  by_cases hbig : 300 < s.length
  · obtain ⟨L, HL⟩ := nm s.length
    rw [HL.out] at hszv hbig
    have hd : decide (300 < (L : Int)) = true := decide_eq_true (by omega)
    clear hsv
    go_enter Tryd.func12, Tryd.ntmps12
    go_wp2_with fail
    go_ret
    exact ⟨rfl, bel_refl _⟩
  have HR1 := Lib.hid (mread_any s (by omega) w hE)
  have HR2 := Lib.hid (fun W => rread_any s (by omega) W)
  rw [← hsv] at HR1
  simp only [← hsv] at HR2
  have HC := Lib.hid (show (readV s = rdV (rread s) ∧ ((rdB (rread s) = true ∧ readE s = 0) ∨ (rdB (rread s) = false ∧ readE s = 201))) from by
    cases hq : rread s with
    | none =>
      obtain ⟨h1, h2⟩ := rread_none hq
      exact ⟨h1, .inr ⟨rfl, h2⟩⟩
    | some M =>
      obtain ⟨h1, h2⟩ := rread_some hq
      exact ⟨h1, .inl ⟨rfl, h2⟩⟩)
  obtain ⟨V, HV⟩ := nm (readV s)
  obtain ⟨E, HEE⟩ := nm (readE s)
  obtain ⟨V2, HV2⟩ := nm (rdV (rread s))
  obtain ⟨B, HB⟩ := nm (rdB (rread s))
  rw [HV.out, HEE.out] at HR1
  simp only [HV2.out, HB.out] at HR2
  rw [HV.out, HEE.out, HV2.out, HB.out] at HC
  obtain ⟨L, HL⟩ := nm s.length
  rw [HL.out] at hszv hbig
  have hd : decide (300 < (L : Int)) = false := decide_eq_false (by omega)
  clear hsv hE
  go_enter Tryd.func12, Tryd.ntmps12
  go_wp2_with fail
  refine (HR1.out).mono ?_
  rintro e w2 ⟨rfl, hb2⟩
  have HB2 := Lib.hid hb2
  clear hb2
  go_wp2_with fail
  refine (HR2.out _).mono ?_
  rintro e w3 ⟨rfl, hb3⟩
  have HB3 := Lib.hid (HB2.out.trans (hb3.mono HB2.out.size))
  clear hb3
  rcases HC.out with ⟨rfl, ⟨rfl, rfl⟩ | ⟨rfl, rfl⟩⟩
  all_goals
    go_wp2_with fail
    go_ret
    exact ⟨rfl, HB3.out⟩

theorem maskReads_all (w : World) (s : ByteArray) (_hs : s.size ≤ maxLen) (hE : EV w) :
    Calls Tryd.prog 3 #[.string s] w fun e w' => e = .returned (.bool true) ∧ Below w.heap.size w w' := by
  have HH := Lib.hid (reads_any s w hE)
  have HE := Lib.hid hE
  clear hE
  go_enter Tryd.func3, Tryd.ntmps3
  go_wp2_with fail
  refine (HH.out).mono ?_
  rintro e w2 ⟨rfl, hb2⟩
  have HE2 := Lib.hid (HE.out.keep hb2 (Nat.le_refl _))
  have HB2 := Lib.hid hb2
  clear hb2
  go_wp2_with fail
  refine (awakeM_any w2 HE2.out).mono ?_
  rintro e w3 ⟨rfl, hb3⟩
  go_wp2_with fail
  go_ret
  exact ⟨rfl, HB2.out.trans (hb3.mono HB2.out.size)⟩
end Go.Proofs.YtjpkldndeakkkaaDoor
