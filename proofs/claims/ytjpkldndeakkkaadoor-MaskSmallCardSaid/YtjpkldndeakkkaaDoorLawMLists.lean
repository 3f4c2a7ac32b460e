/- The walk of the law MaskLists. -/
import Derived.Test.YtjpkldndeakkkaaDoorMRefA
import Derived.Test.YtjpkldndeakkkaaDoorLentK
import Derived.Test.YtjpkldndeakkkaaDoorMskI
namespace Go.Proofs.YtjpkldndeakkkaaDoor
open Go Go.RowKit Go.Shelf

theorem lent_reads {W : World} {g n c : Nat} {l : List Int} (hn : l.length = n) (hc : n + 12 ≤ c) (hcm : c ≤ 9223372036854775807) (h : ∀ i, i < n + 12 → W.cell? ⟨g, i, none⟩ = some (.int .i64 ((l ++ marksI 12)[i]?.getD 0))) : ReadsI .i64 W (.slice (some ⟨g, 0, none⟩) n c) l := by
  refine ⟨some ⟨g, 0, none⟩, c, by rw [hn], by rw [hn]; omega, by omega, .inr ⟨g, 0, rfl, fun i hi => ?_⟩⟩
  rw [hn] at hi
  rw [Nat.zero_add, h i (by omega), lent_at l (by omega)]
theorem all_take {l : List Int} {i : Nat} (h : i < l.length) : (l.take (i + 1)).all okC = ((l.take i).all okC && okC (l[i]?.getD 0)) := by
  rw [takeI_get l i h, List.all_append]; simp

set_option maxRecDepth 100000 in
set_option maxHeartbeats 4000000 in
theorem lists_any (vl : Value) (l : List Int) (w : World) (hl : ReadsI .i64 w vl l) :
    Calls Tryd.prog 14 #[vl] w fun e w' => e = .returned (.bool true) ∧ Below w.heap.size w w' := by
  have HL0 := Lib.hid hl
  obtain ⟨al, cl, rfl, hlc, hcm, -⟩ := hl
  have hat := fun i (h : i < l.length) => all_take (l := l) h
  have hfull : l.take l.length = l := List.take_length
  obtain ⟨n, HN⟩ := nm l.length
  rw [HN.out] at hlc HL0 hfull ⊢
  simp only [HN.out] at hat
  have HAT := Lib.hid hat
  have HFULL := Lib.hid hfull
  clear hat hfull
  by_cases hbig : 200 < n
  · have hd : decide (200 < (n : Int)) = true := decide_eq_true (by omega)
    go_enter Tryd.func14, Tryd.ntmps14
    go_wp2_with fail
    go_ret
    exact ⟨rfl, bel_refl _⟩
  have hd : decide (200 < (n : Int)) = false := decide_eq_false (by omega)
  have hn200 : n ≤ 200 := by omega
  clear hbig
  go_enter Tryd.func14, Tryd.ntmps14
  go_wp2_with fail
  have hlen := lentInts_any _ l w HL0.out (by have := HN.out; omega)
  rw [HN.out] at hlen
  refine hlen.mono ?_
  rintro e w3 ⟨g, c, rfl, hc1, hc2, hg1, hg2, hcells, hb3⟩
  have HB3 := Lib.hid hb3
  have HCL := Lib.hid hcells
  have HC := Lib.hid (And.intro hc1 hc2)
  have HOWN := Lib.hid (lent_reads HN.out hc1 hc2 hcells)
  clear hlen hb3 hcells hc1 hc2 hg1 hg2
  go_wp2_with fail
  refine (mof_any _ l _ HOWN.out (by have := HN.out; omega)).mono ?_
  rintro e w4 ⟨rfl, hb4⟩
  have HB34 := Lib.hid hb4
  have HB4 := Lib.hid (HB3.out.trans (hb4.mono HB3.out.size))
  have HL4 := Lib.hid (HL0.out.keep HB4.out (Nat.le_refl _))
  have HKP := Lib.hid (keptInts_any g n c _ l w4 HN.out HC.out.1 HC.out.2 (fun i hi => cell_keep HB34.out (HCL.out i hi) (cell_lt (HCL.out i hi))) HL4.out (by omega))
  have HVE := Lib.hid (show (l.all okC = true → mofV l = orL l ∧ mofE l = 0) ∧ (l.all okC = false → mofV l = 0 ∧ mofE l = 200) from by
    unfold mofV mofE
    constructor <;> intro h <;> rw [h] <;> exact ⟨rfl, rfl⟩)
  have HOF := Lib.hid (fun (W : World) (hB : Below w4.heap.size w4 W) (h : l.all okC = true) => rof_any _ l W (HL4.out.keep hB (Nat.le_refl _)) (by have := HN.out; omega) (List.all_eq_true.1 h))
  obtain ⟨V, HV⟩ := nm (mofV l)
  obtain ⟨E, HE⟩ := nm (mofE l)
  simp only [HV.out, HE.out] at HVE
  rw [HV.out, HE.out]
  obtain ⟨O, HO⟩ := nm (orL l)
  simp only [HO.out] at HVE HOF
  clear hb4
  obtain ⟨a', c', e', h1, h2, hcs⟩ := HL4.out
  rw [HN.out] at e' hcs
  cases e'
  have HCS := Lib.hid hcs
  clear hcs h1 h2
  go_wp2_with fail
  go_loopw [6, 21] (fun vr vi wr => ∃ i : Nat, i ≤ n ∧ vi = .int .i64 (i : Int) ∧ vr = .bool ((l.take i).all okC) ∧ w4 = wr) (fun _ vi _ => n - (intOf vi).toNat)
  case atStart => exact ⟨0, Nat.zero_le _, rfl, rfl, rfl⟩
  case round =>
    obtain ⟨i, hi, rfl, rfl, rfl⟩ := hrel
    by_cases hlt : i < n
    · obtain ⟨b, o, rfl, hcell⟩ := HCS.out.resolve_left (fun h => by omega)
      have ck := hcell i hlt
      have hst := HAT.out i hlt
      obtain ⟨x, HX⟩ := nm (l[i]?.getD 0)
      rw [HX.out] at ck hst
      obtain ⟨r, HR⟩ := nm ((l.take i).all okC)
      rw [HR.out] at hst ⊢
      obtain ⟨r2, HR2⟩ := nm ((l.take (i + 1)).all okC)
      rw [HR2.out] at hst
      unfold okC at hst
      have HREL := Lib.hid (fun (q : Bool) (h : q = r2) => (show Value.bool q = .bool ((l.take (i + 1)).all okC) from by rw [HR2.out, h]))
      clear hcell
      cases r with
      | false =>
        rw [Bool.false_and] at hst
        have HST := Lib.hid hst
        clear hst
        go_wp2_with fail
        go_roundw
        case rel => exact ⟨i + 1, by omega, by go_num, HREL.out _ HST.out.symm, trivial⟩
        case measure => simp [intOf]; omega
      | true =>
        rw [Bool.true_and] at hst
        by_cases h0 : 0 ≤ x
        · have hd0 : decide (0 ≤ x) = true := decide_eq_true h0
          by_cases h64 : x < 64
          · have hd1 : decide (x < 64) = true := decide_eq_true h64
            rw [decide_eq_true ⟨h0, h64⟩] at hst
            have HST := Lib.hid hst
            clear hst
            go_wp2_with fail
            go_roundw
            case rel => exact ⟨i + 1, by omega, by go_num, HREL.out _ HST.out.symm, trivial⟩
            case measure => simp [intOf]; omega
          · have hd1 : decide (x < 64) = false := decide_eq_false h64
            rw [decide_eq_false (by omega)] at hst
            have HST := Lib.hid hst
            clear hst
            go_wp2_with fail
            go_roundw
            case rel => exact ⟨i + 1, by omega, by go_num, HREL.out _ HST.out.symm, trivial⟩
            case measure => simp [intOf]; omega
        · have hd0 : decide (0 ≤ x) = false := decide_eq_false h0
          rw [decide_eq_false (by omega)] at hst
          have HST := Lib.hid hst
          clear hst
          go_wp2_with fail
          go_roundw
          case rel => exact ⟨i + 1, by omega, by go_num, HREL.out _ HST.out.symm, trivial⟩
          case measure => simp [intOf]; omega
    · obtain rfl : i = n := by omega
      rw [HFULL.out]
      have hve := HVE.out
      have HOF2 := HOF
      obtain ⟨ok, HOK⟩ := nm (l.all okC)
      rw [HOK.out] at hve ⊢
      simp only [HOK.out] at HOF2
      clear HOF
      cases ok with
      | true =>
        obtain ⟨e1, e2⟩ := hve.1 rfl
        rw [e1, e2]
        have HB0 := Lib.hid HB4.out
        clear hve e1 e2
        go_wp2_with fail
        refine (HKP.out).mono ?_
        rintro e w5 ⟨rfl, hb5⟩
        have HB45 := Lib.hid hb5
        clear hb5
        go_wp2_with fail
        refine (HOF2.out _ HB45.out (by first | rfl | trivial)).mono ?_
        rintro e w6 ⟨rfl, hb6⟩
        have HB6 := Lib.hid (HB0.out.trans ((HB45.out.trans (hb6.mono HB45.out.size)).mono HB0.out.size))
        clear hb6
        go_wp2_with fail
        go_ret
        exact ⟨rfl, HB6.out⟩
      | false =>
        obtain ⟨e1, e2⟩ := hve.2 rfl
        rw [e1, e2]
        clear hve e1 e2
        go_wp2_with fail
        refine (HKP.out).mono ?_
        rintro e w5 ⟨rfl, hb5⟩
        have HB5 := Lib.hid (HB4.out.trans (hb5.mono HB4.out.size))
        clear hb5
        go_wp2_with fail
        go_ret
        exact ⟨rfl, HB5.out⟩

theorem maskLists_all (vl : Value) (l : List Int) (w : World) (hl : ReadsI .i64 w vl l) (_hlb : ∀ k ∈ l, -9223372036854775808 ≤ k ∧ k ≤ 9223372036854775807) (hE : EV w) :
    Calls Tryd.prog 4 #[vl] w fun e w' => e = .returned (.bool true) ∧ Below w.heap.size w w' := by
  have HH := Lib.hid (lists_any vl l w hl)
  have HE := Lib.hid hE
  obtain ⟨al, cl, rfl, hlc, hcm, -⟩ := hl
  clear hE
  go_enter Tryd.func4, Tryd.ntmps4
  go_wp2_with fail
  refine (HH.out).mono ?_
  rintro e w2 ⟨rfl, hb2⟩
  have HE2 := Lib.hid (HE.out.keep hb2 (Nat.le_refl _))
  have HB2 := Lib.hid hb2
  clear hb2
  go_wp2_with fail
  refine (awakeM_any w2 HE2.out).mono ?_
  rintro e w3 ⟨rfl, hb3⟩
  go_wp2_with fail
  go_ret
  exact ⟨rfl, HB2.out.trans (hb3.mono HB2.out.size)⟩
end Go.Proofs.YtjpkldndeakkkaaDoor
